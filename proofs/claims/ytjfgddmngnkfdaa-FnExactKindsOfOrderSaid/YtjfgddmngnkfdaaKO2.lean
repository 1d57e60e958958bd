/- What the functions that KindsOfOrder reaches compute, printed. No conditions. -/
import Derived.Test.YtjfgddmngnkfdaaW1Q
namespace Go.Proofs.Ytjfgddmngnkfdaa
open Go.Vai
set_option maxRecDepth 100000
noncomputable section

/-! ### F26 laws.toInt64S -/
def T_laws_toInt64S : List (FuncId × Contract) := []
abbrev s_laws_toInt64S_4 : LS := ⟨[(false, [(.sl (.int .i64))]), (false, [(.own (.int .i64))]), (false, [(.int .i64)])], [], []⟩
abbrev e_laws_toInt64S_4_0 : LS := ⟨[(false, [(.own (.int .i64))])], [], []⟩
abbrev d_laws_toInt64S_4_0 (v0 : List Int) := ((((v0, ()), ()), (), ()) : e_laws_toInt64S_4_0.T)
abbrev x_laws_toInt64S_4 : List (Ex × LS) := [(.exit 0, e_laws_toInt64S_4_0)]
abbrev m_laws_toInt64S_4 (x0 : List Int) (x3 : List Int) (x4 : Int) := ((((x0, ()), (x3, ()), (x4, ()), ()), (), ()) : s_laws_toInt64S_4.T)
def u_laws_toInt64S_4 {R : Type} (nx : s_laws_toInt64S_4.T → Option R) (hx : exH R x_laws_toInt64S_4) (x0 : List Int) (x3 : List Int) (x4 : Int) : Option R :=
  cond (decide (x4 < (((List.length x0) : Nat) : Int)))
  (Option.bind (idx x0 x4) fun y6 =>
   Option.bind (idx x3 x4) fun _ =>
   nx (m_laws_toInt64S_4 x0 (List.set x3 (0 + (Int.toNat x4)) y6) (IntKind.wrap IntKind.i64 (x4 + (1 : Int)))))
  (hx.1 (d_laws_toInt64S_4_0 x3))
def t_laws_toInt64S_4 {R : Type} (nx : s_laws_toInt64S_4.T → Option R) (hx : exH R x_laws_toInt64S_4) (z : s_laws_toInt64S_4.T) : Option R := u_laws_toInt64S_4 nx hx z.1.1.1 z.1.2.1.1 z.1.2.2.1.1
theorem nat_laws_toInt64S_4 : Natural @t_laws_toInt64S_4 := fun R nx hx z => by
  show u_laws_toInt64S_4 nx hx z.1.1.1 z.1.2.1.1 z.1.2.2.1.1 = (u_laws_toInt64S_4 (fun y => some (.inl y)) (hIn x_laws_toInt64S_4 fun x => some (.inr x)) z.1.1.1 z.1.2.1.1 z.1.2.2.1.1).bind (goOn nx hx)
  unfold u_laws_toInt64S_4
  exact nat_cond (nat_bind fun _ => nat_bind fun _ => rfl) (rfl)
def w_laws_toInt64S_4 : s_laws_toInt64S_4.T → Option (exT x_laws_toInt64S_4) := wOf @t_laws_toInt64S_4
theorem wq_laws_toInt64S_4 x0 x3 x4 : w_laws_toInt64S_4 (m_laws_toInt64S_4 x0 x3 x4) = u_laws_toInt64S_4 w_laws_toInt64S_4 (hIn x_laws_toInt64S_4 some) x0 x3 x4 := wOf_eq nat_laws_toInt64S_4 _
def lh_laws_toInt64S_4 : LoopHint := ⟨[0, 3, 4], [], [3], []⟩
def h_laws_toInt64S : Hints Rv := ⟨fun k => match k with | 4 => lh_laws_toInt64S_4 | _ => ⟨[], [], [], []⟩, fun k => match k with | 4 => some (loopX s_laws_toInt64S_4 x_laws_toInt64S_4 w_laws_toInt64S_4) | _ => none⟩
theorem st_laws_toInt64S_4 (n : Nat) (z : s_laws_toInt64S_4.T) (k : Ex → Live → Option Rv) : loopN ⟨22, 22⟩ lh_laws_toInt64S_4 (den (tab C0 T_laws_toInt64S) ⟨22, 22⟩ h_laws_toInt64S 1 (loopOf Try.f26 3)) (n + 1) (s_laws_toInt64S_4.enc z) k =
    t_laws_toInt64S_4 (fun y => loopN ⟨22, 22⟩ lh_laws_toInt64S_4 (den (tab C0 T_laws_toInt64S) ⟨22, 22⟩ h_laws_toInt64S 1 (loopOf Try.f26 3)) n (s_laws_toInt64S_4.enc y) k) (hK k x_laws_toInt64S_4) z := by kernel_rfl
theorem hs_laws_toInt64S : HintsOk (tab C0 T_laws_toInt64S) ⟨22, 22⟩ h_laws_toInt64S 1 (loops (codeOf Try.f26)) := by
  have hl : loops (codeOf Try.f26) = [loopOf Try.f26 3] := by kernel_rfl
  rw [hl]
  exact HintsOk.cons (n := 4) (lh := lh_laws_toInt64S_4) (S := loopX s_laws_toInt64S_4 x_laws_toInt64S_4 w_laws_toInt64S_4) (by kernel_rfl) rfl rfl (loopX_ok nat_laws_toInt64S_4 st_laws_toInt64S_4)
    (HintsOk.nil)
def t_laws_toInt64S {R : Type} (kx : (List Int) → Option R) (a0 : (List Int)) : Option R :=
  cond (decide ((((List.length a0) : Nat) : Int) ≤ (((List.length a0) : Nat) : Int)))
  (cond (decide (((((List.length a0) : Nat) : Int) * ((8 : Nat) : Int)) ≤ (70368744177664 : Int)))
   (cond (decide ((((List.length a0) : Nat) : Int) ≤ (70368744177664 : Int)))
    (Option.bind (w_laws_toInt64S_4 (m_laws_toInt64S_4 a0 (List.replicate (Int.toNat (((List.length a0) : Nat) : Int)) (0 : Int)) (0 : Int))) (exC x_laws_toInt64S_4
     (fun e8 =>
      kx (e8.1.1.1 : List Int), ())))
    (none))
   (none))
  (none)
def g_laws_toInt64S (a0 : (List Int)) : Option ((List Int)) := t_laws_toInt64S some a0
theorem nat_laws_toInt64S {R} kx a0 : @t_laws_toInt64S R kx a0 = (g_laws_toInt64S a0).bind kx := by
  unfold g_laws_toInt64S t_laws_toInt64S
  exact nat_cond (nat_cond (nat_cond (nat_exC ⟨fun _ => rfl, trivial⟩) (rfl)) (rfl)) (rfl)
abbrev k_laws_toInt64S : Contract := .fx [.val false (.slice (.int .i64))] ((List Int)) (fun z => g_laws_toInt64S z.1) (fun b => (.one ⟨false, [(.own (.int .i64) b)]⟩, []))
theorem so_laws_toInt64S : Sound C0 26 k_laws_toInt64S :=
  Sound.fx (e := false) (t := T_laws_toInt64S) (.nil) mixed Try.func26 (by kernel_rfl) (by kernel_rfl) h_laws_toInt64S 1 hs_laws_toInt64S (fun z => (by kernel_rfl : _ = t_laws_toInt64S (fun b => some (k_laws_toInt64S.enc b)) z.1).trans (nat_laws_toInt64S _ z.1))

/-! ### F59 spec.l11Open -/
def T_spec_l11Open : List (FuncId × Contract) := []
abbrev s_spec_l11Open_4 : LS := ⟨[(false, [(.int .i64)]), (false, [(.own (.int .i64))]), (false, [(.int .i64)])], [], []⟩
abbrev e_spec_l11Open_4_0 : LS := ⟨[(false, [(.own (.int .i64))])], [], []⟩
abbrev d_spec_l11Open_4_0 (v0 : List Int) := ((((v0, ()), ()), (), ()) : e_spec_l11Open_4_0.T)
abbrev x_spec_l11Open_4 : List (Ex × LS) := [(.exit 0, e_spec_l11Open_4_0)]
abbrev m_spec_l11Open_4 (x0 : Int) (x3 : List Int) (x4 : Int) := ((((x0, ()), (x3, ()), (x4, ()), ()), (), ()) : s_spec_l11Open_4.T)
def u_spec_l11Open_4 {R : Type} (nx : s_spec_l11Open_4.T → Option R) (hx : exH R x_spec_l11Open_4) (x0 : Int) (x3 : List Int) (x4 : Int) : Option R :=
  cond (decide (x4 < x0))
  (cond (decide ((((List.length x3) + (List.length [(4 : Int)])) * 8) ≤ 70368744177664))
   (cond (decide (((List.length x3) + (List.length [(4 : Int)])) ≤ 70368744177664))
    (nx (m_spec_l11Open_4 x0 (x3 ++ [(4 : Int)]) (IntKind.wrap IntKind.i64 (x4 + (1 : Int)))))
    (none))
   (none))
  (hx.1 (d_spec_l11Open_4_0 x3))
def t_spec_l11Open_4 {R : Type} (nx : s_spec_l11Open_4.T → Option R) (hx : exH R x_spec_l11Open_4) (z : s_spec_l11Open_4.T) : Option R := u_spec_l11Open_4 nx hx z.1.1.1 z.1.2.1.1 z.1.2.2.1.1
theorem nat_spec_l11Open_4 : Natural @t_spec_l11Open_4 := fun R nx hx z => by
  show u_spec_l11Open_4 nx hx z.1.1.1 z.1.2.1.1 z.1.2.2.1.1 = (u_spec_l11Open_4 (fun y => some (.inl y)) (hIn x_spec_l11Open_4 fun x => some (.inr x)) z.1.1.1 z.1.2.1.1 z.1.2.2.1.1).bind (goOn nx hx)
  unfold u_spec_l11Open_4
  exact nat_cond (nat_cond (nat_cond (rfl) (rfl)) (rfl)) (rfl)
def w_spec_l11Open_4 : s_spec_l11Open_4.T → Option (exT x_spec_l11Open_4) := wOf @t_spec_l11Open_4
theorem wq_spec_l11Open_4 x0 x3 x4 : w_spec_l11Open_4 (m_spec_l11Open_4 x0 x3 x4) = u_spec_l11Open_4 w_spec_l11Open_4 (hIn x_spec_l11Open_4 some) x0 x3 x4 := wOf_eq nat_spec_l11Open_4 _
def lh_spec_l11Open_4 : LoopHint := ⟨[0, 3, 4], [], [3], []⟩
def h_spec_l11Open : Hints Rv := ⟨fun k => match k with | 4 => lh_spec_l11Open_4 | _ => ⟨[], [], [], []⟩, fun k => match k with | 4 => some (loopX s_spec_l11Open_4 x_spec_l11Open_4 w_spec_l11Open_4) | _ => none⟩
theorem st_spec_l11Open_4 (n : Nat) (z : s_spec_l11Open_4.T) (k : Ex → Live → Option Rv) : loopN ⟨15, 15⟩ lh_spec_l11Open_4 (den (tab C0 T_spec_l11Open) ⟨15, 15⟩ h_spec_l11Open 1 (loopOf Try.f59 3)) (n + 1) (s_spec_l11Open_4.enc z) k =
    t_spec_l11Open_4 (fun y => loopN ⟨15, 15⟩ lh_spec_l11Open_4 (den (tab C0 T_spec_l11Open) ⟨15, 15⟩ h_spec_l11Open 1 (loopOf Try.f59 3)) n (s_spec_l11Open_4.enc y) k) (hK k x_spec_l11Open_4) z := by kernel_rfl
theorem hs_spec_l11Open : HintsOk (tab C0 T_spec_l11Open) ⟨15, 15⟩ h_spec_l11Open 1 (loops (codeOf Try.f59)) := by
  have hl : loops (codeOf Try.f59) = [loopOf Try.f59 3] := by kernel_rfl
  rw [hl]
  exact HintsOk.cons (n := 4) (lh := lh_spec_l11Open_4) (S := loopX s_spec_l11Open_4 x_spec_l11Open_4 w_spec_l11Open_4) (by kernel_rfl) rfl rfl (loopX_ok nat_spec_l11Open_4 st_spec_l11Open_4)
    (HintsOk.nil)
def t_spec_l11Open {R : Type} (kx : (List Int) → Option R) (a0 : Int) : Option R :=
  Option.bind (w_spec_l11Open_4 (m_spec_l11Open_4 a0 [] (0 : Int))) (exC x_spec_l11Open_4
  (fun e18 =>
   kx (e18.1.1.1 : List Int), ()))
def g_spec_l11Open (a0 : Int) : Option ((List Int)) := t_spec_l11Open some a0
theorem nat_spec_l11Open {R} kx a0 : @t_spec_l11Open R kx a0 = (g_spec_l11Open a0).bind kx := by
  unfold g_spec_l11Open t_spec_l11Open
  exact nat_exC ⟨fun _ => rfl, trivial⟩
abbrev k_spec_l11Open : Contract := .fx [.val false (.int .i64)] ((List Int)) (fun z => g_spec_l11Open z.1) (fun b => (.one ⟨false, [(.own (.int .i64) b)]⟩, []))
theorem so_spec_l11Open : Sound C0 59 k_spec_l11Open :=
  Sound.fx (e := false) (t := T_spec_l11Open) (.nil) mixed Try.func59 (by kernel_rfl) (by kernel_rfl) h_spec_l11Open 1 hs_spec_l11Open (fun z => (by kernel_rfl : _ = t_spec_l11Open (fun b => some (k_spec_l11Open.enc b)) z.1).trans (nat_spec_l11Open _ z.1))

/-! ### F43 spec.l00In -/
def t_spec_l00In {R : Type} (kx : Bool → Option R) (a0 : Int) (a1 : Int) (a2 : Int) : Option R :=
  cond (decide (a0 ≥ a1))
  (kx (decide (a0 ≤ a2)))
  (kx Bool.false)
def g_spec_l00In (a0 : Int) (a1 : Int) (a2 : Int) : Option (Bool) := t_spec_l00In some a0 a1 a2
theorem nat_spec_l00In {R} kx a0 a1 a2 : @t_spec_l00In R kx a0 a1 a2 = (g_spec_l00In a0 a1 a2).bind kx := by
  unfold g_spec_l00In t_spec_l00In
  exact nat_cond (rfl) (rfl)
abbrev k_spec_l00In : Contract := .fx [.val false (.int .i64), .val false (.int .i64), .val false (.int .i64)] (Bool) (fun z => g_spec_l00In z.1 z.2.1 z.2.2.1) (fun b => (.one ⟨false, [(.v (.bool b))]⟩, []))
theorem so_spec_l00In : Sound C0 43 k_spec_l00In :=
  Sound.fx (e := false) (.nil) mixed Try.func43 (by kernel_rfl) (by kernel_rfl) noHints 1 noHints_ok (fun z => (by kernel_rfl : _ = t_spec_l00In (fun b => some (k_spec_l00In.enc b)) z.1 z.2.1 z.2.2.1).trans (nat_spec_l00In _ z.1 z.2.1 z.2.2.1))

/-! ### F50 spec.l11Ok -/
def T_spec_l11Ok : List (FuncId × Contract) := [(43, k_spec_l00In)]
abbrev s_spec_l11Ok_7 : LS := ⟨[(false, [(.sl (.int .i64))]), (false, [(.int .i64)]), (false, [(.int .i64)]), (false, [(.int .i64)])], [], []⟩
abbrev e_spec_l11Ok_7_0 : LS := ⟨[(false, [.bool]), (false, [(.int .i64)]), (false, [(.int .i64)])], [], []⟩
abbrev d_spec_l11Ok_7_0 (v0 : Bool) (v1 : Int) (v2 : Int) := ((((v0, ()), (v1, ()), (v2, ()), ()), (), ()) : e_spec_l11Ok_7_0.T)
abbrev e_spec_l11Ok_7_1 : LS := ⟨[(false, [.undef]), (false, [(.int .i64)]), (false, [(.int .i64)])], [], []⟩
abbrev d_spec_l11Ok_7_1 (v0 : Int) (v1 : Int) := (((((), ()), (v0, ()), (v1, ()), ()), (), ()) : e_spec_l11Ok_7_1.T)
abbrev x_spec_l11Ok_7 : List (Ex × LS) := [(.ret, e_spec_l11Ok_7_0), (.exit 0, e_spec_l11Ok_7_1)]
abbrev m_spec_l11Ok_7 (x0 : List Int) (x3 : Int) (x4 : Int) (x5 : Int) := ((((x0, ()), (x3, ()), (x4, ()), (x5, ()), ()), (), ()) : s_spec_l11Ok_7.T)
def u_spec_l11Ok_7 {R : Type} (nx : s_spec_l11Ok_7.T → Option R) (hx : exH R x_spec_l11Ok_7) (x0 : List Int) (x3 : Int) (x4 : Int) (x5 : Int) : Option R :=
  cond (decide (x5 < (((List.length x0) : Nat) : Int)))
  (Option.bind (idx x0 x5) fun y29 =>
   Option.bind (g_spec_l00In y29 (1 : Int) (16 : Int)) fun y33 =>
   cond (!y33)
   (hx.1 (d_spec_l11Ok_7_0 Bool.false x3 x4))
   (Option.bind (idx x0 x5) fun y34 =>
    cond ((Int.tmod x5 (2 : Int)) == (0 : Int))
    (Option.bind (idx x0 x5) fun y35 =>
     nx (m_spec_l11Ok_7 x0 (IntKind.wrap IntKind.i64 (x3 + y34)) (IntKind.wrap IntKind.i64 (x4 + y35)) (IntKind.wrap IntKind.i64 (x5 + (1 : Int)))))
    (nx (m_spec_l11Ok_7 x0 (IntKind.wrap IntKind.i64 (x3 + y34)) x4 (IntKind.wrap IntKind.i64 (x5 + (1 : Int)))))))
  (hx.2.1 (d_spec_l11Ok_7_1 x3 x4))
def t_spec_l11Ok_7 {R : Type} (nx : s_spec_l11Ok_7.T → Option R) (hx : exH R x_spec_l11Ok_7) (z : s_spec_l11Ok_7.T) : Option R := u_spec_l11Ok_7 nx hx z.1.1.1 z.1.2.1.1 z.1.2.2.1.1 z.1.2.2.2.1.1
theorem nat_spec_l11Ok_7 : Natural @t_spec_l11Ok_7 := fun R nx hx z => by
  show u_spec_l11Ok_7 nx hx z.1.1.1 z.1.2.1.1 z.1.2.2.1.1 z.1.2.2.2.1.1 = (u_spec_l11Ok_7 (fun y => some (.inl y)) (hIn x_spec_l11Ok_7 fun x => some (.inr x)) z.1.1.1 z.1.2.1.1 z.1.2.2.1.1 z.1.2.2.2.1.1).bind (goOn nx hx)
  unfold u_spec_l11Ok_7
  exact nat_cond (nat_bind fun _ => nat_bind fun _ => nat_cond (rfl) (nat_bind fun _ => nat_cond (nat_bind fun _ => rfl) (rfl))) (rfl)
def w_spec_l11Ok_7 : s_spec_l11Ok_7.T → Option (exT x_spec_l11Ok_7) := wOf @t_spec_l11Ok_7
theorem wq_spec_l11Ok_7 x0 x3 x4 x5 : w_spec_l11Ok_7 (m_spec_l11Ok_7 x0 x3 x4 x5) = u_spec_l11Ok_7 w_spec_l11Ok_7 (hIn x_spec_l11Ok_7 some) x0 x3 x4 x5 := wOf_eq nat_spec_l11Ok_7 _
def lh_spec_l11Ok_7 : LoopHint := ⟨[0, 3, 4, 5], [], [2, 3, 4], []⟩
def h_spec_l11Ok : Hints Rv := ⟨fun k => match k with | 7 => lh_spec_l11Ok_7 | _ => ⟨[], [], [], []⟩, fun k => match k with | 7 => some (loopX s_spec_l11Ok_7 x_spec_l11Ok_7 w_spec_l11Ok_7) | _ => none⟩
theorem st_spec_l11Ok_7 (n : Nat) (z : s_spec_l11Ok_7.T) (k : Ex → Live → Option Rv) : loopN ⟨55, 55⟩ lh_spec_l11Ok_7 (den (tab C0 T_spec_l11Ok) ⟨55, 55⟩ h_spec_l11Ok 1 (loopOf Try.f50 6)) (n + 1) (s_spec_l11Ok_7.enc z) k =
    t_spec_l11Ok_7 (fun y => loopN ⟨55, 55⟩ lh_spec_l11Ok_7 (den (tab C0 T_spec_l11Ok) ⟨55, 55⟩ h_spec_l11Ok 1 (loopOf Try.f50 6)) n (s_spec_l11Ok_7.enc y) k) (hK k x_spec_l11Ok_7) z := by kernel_rfl
theorem hs_spec_l11Ok : HintsOk (tab C0 T_spec_l11Ok) ⟨55, 55⟩ h_spec_l11Ok 1 (loops (codeOf Try.f50)) := by
  have hl : loops (codeOf Try.f50) = [loopOf Try.f50 6] := by kernel_rfl
  rw [hl]
  exact HintsOk.cons (n := 7) (lh := lh_spec_l11Ok_7) (S := loopX s_spec_l11Ok_7 x_spec_l11Ok_7 w_spec_l11Ok_7) (by kernel_rfl) rfl rfl (loopX_ok nat_spec_l11Ok_7 st_spec_l11Ok_7)
    (HintsOk.nil)
def t_spec_l11Ok {R : Type} (kx : Bool → Option R) (a0 : (List Int)) : Option R :=
  cond (decide ((((List.length a0) : Nat) : Int) < (2 : Int)))
  (kx Bool.false)
  (cond (decide ((((List.length a0) : Nat) : Int) > (16 : Int)))
   (kx Bool.false)
   (cond ((Int.tmod (((List.length a0) : Nat) : Int) (2 : Int)) != (0 : Int))
    (kx Bool.false)
    (Option.bind (w_spec_l11Ok_7 (m_spec_l11Ok_7 a0 (0 : Int) (0 : Int) (0 : Int))) (exC x_spec_l11Ok_7
     (fun e36 =>
      kx (e36.1.1.1 : Bool), fun e40 =>
      cond (decide ((e40.1.2.1.1 : Int) ≤ (16 : Int)))
      (kx ((IntKind.wrap IntKind.i64 ((2 : Int) * (e40.1.2.2.1.1 : Int))) == (e40.1.2.1.1 : Int)))
      (kx Bool.false), ())))))
def g_spec_l11Ok (a0 : (List Int)) : Option (Bool) := t_spec_l11Ok some a0
theorem nat_spec_l11Ok {R} kx a0 : @t_spec_l11Ok R kx a0 = (g_spec_l11Ok a0).bind kx := by
  unfold g_spec_l11Ok t_spec_l11Ok
  exact nat_cond (rfl) (nat_cond (rfl) (nat_cond (rfl) (nat_exC ⟨fun _ => rfl, fun _ => nat_cond (rfl) (rfl), trivial⟩)))
abbrev k_spec_l11Ok : Contract := .fx [.val false (.slice (.int .i64))] (Bool) (fun z => g_spec_l11Ok z.1) (fun b => (.one ⟨false, [(.v (.bool b))]⟩, []))
theorem so_spec_l11Ok : Sound C0 50 k_spec_l11Ok :=
  Sound.fx (e := false) (t := T_spec_l11Ok) (.cons so_spec_l00In (.nil)) mixed Try.func50 (by kernel_rfl) (by kernel_rfl) h_spec_l11Ok 1 hs_spec_l11Ok (fun z => (by kernel_rfl : _ = t_spec_l11Ok (fun b => some (k_spec_l11Ok.enc b)) z.1).trans (nat_spec_l11Ok _ z.1))

/-! ### F51 spec.l11Kinds -/
def T_spec_l11Kinds : List (FuncId × Contract) := []
abbrev s_spec_l11Kinds_3 : LS := ⟨[(false, [(.sl (.int .i64))]), (false, [(.sl (.int .i64))]), (false, [.bool]), (false, [(.int .i64)])], [], []⟩
abbrev e_spec_l11Kinds_3_0 : LS := ⟨[(false, [(.sl (.int .i64))]), (false, [(.sl (.int .i64))]), (false, [.bool])], [], []⟩
abbrev d_spec_l11Kinds_3_0 (v0 : List Int) (v1 : List Int) (v2 : Bool) := ((((v0, ()), (v1, ()), (v2, ()), ()), (), ()) : e_spec_l11Kinds_3_0.T)
abbrev e_spec_l11Kinds_3_1 : LS := ⟨[(false, [(.sl (.int .i64))]), (false, [(.sl (.int .i64))]), (false, [.undef])], [], []⟩
abbrev d_spec_l11Kinds_3_1 (v0 : List Int) (v1 : List Int) := ((((v0, ()), (v1, ()), ((), ()), ()), (), ()) : e_spec_l11Kinds_3_1.T)
abbrev x_spec_l11Kinds_3 : List (Ex × LS) := [(.ret, e_spec_l11Kinds_3_0), (.exit 0, e_spec_l11Kinds_3_1)]
abbrev m_spec_l11Kinds_3 (x0 : List Int) (x1 : List Int) (x2 : Bool) (x7 : Int) := ((((x0, ()), (x1, ()), (x2, ()), (x7, ()), ()), (), ()) : s_spec_l11Kinds_3.T)
def u_spec_l11Kinds_3 {R : Type} (nx : s_spec_l11Kinds_3.T → Option R) (hx : exH R x_spec_l11Kinds_3) (x0 : List Int) (x1 : List Int) (x2 : Bool) (x7 : Int) : Option R :=
  cond (decide (x7 < (((List.length x1) : Nat) : Int)))
  (Option.bind (idx x1 x7) fun y51 =>
   cond (y51 != (2 : Int))
   (cond (y51 != (3 : Int))
    (cond x2
     (cond (!(y51 == (4 : Int)))
      (hx.1 (d_spec_l11Kinds_3_0 x0 x1 Bool.false))
      (nx (m_spec_l11Kinds_3 x0 x1 x2 (IntKind.wrap IntKind.i64 (x7 + (1 : Int))))))
     (hx.1 (d_spec_l11Kinds_3_0 x0 x1 Bool.false)))
    (nx (m_spec_l11Kinds_3 x0 x1 x2 (IntKind.wrap IntKind.i64 (x7 + (1 : Int))))))
   (nx (m_spec_l11Kinds_3 x0 x1 x2 (IntKind.wrap IntKind.i64 (x7 + (1 : Int))))))
  (hx.2.1 (d_spec_l11Kinds_3_1 x0 x1))
def t_spec_l11Kinds_3 {R : Type} (nx : s_spec_l11Kinds_3.T → Option R) (hx : exH R x_spec_l11Kinds_3) (z : s_spec_l11Kinds_3.T) : Option R := u_spec_l11Kinds_3 nx hx z.1.1.1 z.1.2.1.1 z.1.2.2.1.1 z.1.2.2.2.1.1
theorem nat_spec_l11Kinds_3 : Natural @t_spec_l11Kinds_3 := fun R nx hx z => by
  show u_spec_l11Kinds_3 nx hx z.1.1.1 z.1.2.1.1 z.1.2.2.1.1 z.1.2.2.2.1.1 = (u_spec_l11Kinds_3 (fun y => some (.inl y)) (hIn x_spec_l11Kinds_3 fun x => some (.inr x)) z.1.1.1 z.1.2.1.1 z.1.2.2.1.1 z.1.2.2.2.1.1).bind (goOn nx hx)
  unfold u_spec_l11Kinds_3
  exact nat_cond (nat_bind fun _ => nat_cond (nat_cond (nat_cond (nat_cond (rfl) (rfl)) (rfl)) (rfl)) (rfl)) (rfl)
def w_spec_l11Kinds_3 : s_spec_l11Kinds_3.T → Option (exT x_spec_l11Kinds_3) := wOf @t_spec_l11Kinds_3
theorem wq_spec_l11Kinds_3 x0 x1 x2 x7 : w_spec_l11Kinds_3 (m_spec_l11Kinds_3 x0 x1 x2 x7) = u_spec_l11Kinds_3 w_spec_l11Kinds_3 (hIn x_spec_l11Kinds_3 some) x0 x1 x2 x7 := wOf_eq nat_spec_l11Kinds_3 _
def lh_spec_l11Kinds_3 : LoopHint := ⟨[0, 1, 2, 7], [], [0, 1, 6], []⟩
def h_spec_l11Kinds : Hints Rv := ⟨fun k => match k with | 3 => lh_spec_l11Kinds_3 | _ => ⟨[], [], [], []⟩, fun k => match k with | 3 => some (loopX s_spec_l11Kinds_3 x_spec_l11Kinds_3 w_spec_l11Kinds_3) | _ => none⟩
theorem st_spec_l11Kinds_3 (n : Nat) (z : s_spec_l11Kinds_3.T) (k : Ex → Live → Option Rv) : loopN ⟨38, 38⟩ lh_spec_l11Kinds_3 (den (tab C0 T_spec_l11Kinds) ⟨38, 38⟩ h_spec_l11Kinds 1 (loopOf Try.f51 2)) (n + 1) (s_spec_l11Kinds_3.enc z) k =
    t_spec_l11Kinds_3 (fun y => loopN ⟨38, 38⟩ lh_spec_l11Kinds_3 (den (tab C0 T_spec_l11Kinds) ⟨38, 38⟩ h_spec_l11Kinds 1 (loopOf Try.f51 2)) n (s_spec_l11Kinds_3.enc y) k) (hK k x_spec_l11Kinds_3) z := by kernel_rfl
theorem hs_spec_l11Kinds : HintsOk (tab C0 T_spec_l11Kinds) ⟨38, 38⟩ h_spec_l11Kinds 1 (loops (codeOf Try.f51)) := by
  have hl : loops (codeOf Try.f51) = [loopOf Try.f51 2] := by kernel_rfl
  rw [hl]
  exact HintsOk.cons (n := 3) (lh := lh_spec_l11Kinds_3) (S := loopX s_spec_l11Kinds_3 x_spec_l11Kinds_3 w_spec_l11Kinds_3) (by kernel_rfl) rfl rfl (loopX_ok nat_spec_l11Kinds_3 st_spec_l11Kinds_3)
    (HintsOk.nil)
def t_spec_l11Kinds {R : Type} (kx : Bool → Option R) (a0 : (List Int)) (a1 : (List Int)) (a2 : Bool) : Option R :=
  Option.bind (w_spec_l11Kinds_3 (m_spec_l11Kinds_3 a0 a1 a2 (0 : Int))) (exC x_spec_l11Kinds_3
  (fun e52 =>
   kx (e52.1.2.2.1.1 : Bool), fun e56 =>
   kx ((((List.length (e56.1.2.1.1 : List Int)) : Nat) : Int) == (((List.length (e56.1.1.1 : List Int)) : Nat) : Int)), ()))
def g_spec_l11Kinds (a0 : (List Int)) (a1 : (List Int)) (a2 : Bool) : Option (Bool) := t_spec_l11Kinds some a0 a1 a2
theorem nat_spec_l11Kinds {R} kx a0 a1 a2 : @t_spec_l11Kinds R kx a0 a1 a2 = (g_spec_l11Kinds a0 a1 a2).bind kx := by
  unfold g_spec_l11Kinds t_spec_l11Kinds
  exact nat_exC ⟨fun _ => rfl, fun _ => rfl, trivial⟩
abbrev k_spec_l11Kinds : Contract := .fx [.val false (.slice (.int .i64)), .val false (.slice (.int .i64)), .val false .bool] (Bool) (fun z => g_spec_l11Kinds z.1 z.2.1 z.2.2.1) (fun b => (.one ⟨false, [(.v (.bool b))]⟩, []))
theorem so_spec_l11Kinds : Sound C0 51 k_spec_l11Kinds :=
  Sound.fx (e := false) (t := T_spec_l11Kinds) (.nil) mixed Try.func51 (by kernel_rfl) (by kernel_rfl) h_spec_l11Kinds 1 hs_spec_l11Kinds (fun z => (by kernel_rfl : _ = t_spec_l11Kinds (fun b => some (k_spec_l11Kinds.enc b)) z.1 z.2.1 z.2.2.1).trans (nat_spec_l11Kinds _ z.1 z.2.1 z.2.2.1))

/-! ### F84 spec.l11Places -/
def T_spec_l11Places : List (FuncId × Contract) := []
abbrev s_spec_l11Places_5 : LS := ⟨[(false, [(.sl (.int .i64))]), (false, [(.own (.int .i64))]), (false, [(.int .i64)]), (false, [(.int .i64)])], [], []⟩
abbrev e_spec_l11Places_5_0 : LS := ⟨[(false, [(.own (.int .i64))])], [], []⟩
abbrev d_spec_l11Places_5_0 (v0 : List Int) := ((((v0, ()), ()), (), ()) : e_spec_l11Places_5_0.T)
abbrev x_spec_l11Places_5 : List (Ex × LS) := [(.exit 0, e_spec_l11Places_5_0)]
abbrev m_spec_l11Places_5 (x0 : List Int) (x3 : List Int) (x4 : Int) (x5 : Int) := ((((x0, ()), (x3, ()), (x4, ()), (x5, ()), ()), (), ()) : s_spec_l11Places_5.T)
def u_spec_l11Places_5 {R : Type} (nx : s_spec_l11Places_5.T → Option R) (hx : exH R x_spec_l11Places_5) (x0 : List Int) (x3 : List Int) (x4 : Int) (x5 : Int) : Option R :=
  cond (decide (x5 < (((List.length x0) : Nat) : Int)))
  (cond (decide ((((List.length x3) + (List.length [x4])) * 8) ≤ 70368744177664))
   (cond (decide (((List.length x3) + (List.length [x4])) ≤ 70368744177664))
    (cond ((Int.tmod x5 (2 : Int)) == (0 : Int))
     (Option.bind (idx x0 x5) fun y67 =>
      nx (m_spec_l11Places_5 x0 (x3 ++ [x4]) (IntKind.wrap IntKind.i64 (x4 + y67)) (IntKind.wrap IntKind.i64 (x5 + (1 : Int)))))
     (Option.bind (idx x0 x5) fun y68 =>
      nx (m_spec_l11Places_5 x0 (x3 ++ [x4]) (IntKind.wrap IntKind.i64 (x4 - y68)) (IntKind.wrap IntKind.i64 (x5 + (1 : Int))))))
    (none))
   (none))
  (hx.1 (d_spec_l11Places_5_0 x3))
def t_spec_l11Places_5 {R : Type} (nx : s_spec_l11Places_5.T → Option R) (hx : exH R x_spec_l11Places_5) (z : s_spec_l11Places_5.T) : Option R := u_spec_l11Places_5 nx hx z.1.1.1 z.1.2.1.1 z.1.2.2.1.1 z.1.2.2.2.1.1
theorem nat_spec_l11Places_5 : Natural @t_spec_l11Places_5 := fun R nx hx z => by
  show u_spec_l11Places_5 nx hx z.1.1.1 z.1.2.1.1 z.1.2.2.1.1 z.1.2.2.2.1.1 = (u_spec_l11Places_5 (fun y => some (.inl y)) (hIn x_spec_l11Places_5 fun x => some (.inr x)) z.1.1.1 z.1.2.1.1 z.1.2.2.1.1 z.1.2.2.2.1.1).bind (goOn nx hx)
  unfold u_spec_l11Places_5
  exact nat_cond (nat_cond (nat_cond (nat_cond (nat_bind fun _ => rfl) (nat_bind fun _ => rfl)) (rfl)) (rfl)) (rfl)
def w_spec_l11Places_5 : s_spec_l11Places_5.T → Option (exT x_spec_l11Places_5) := wOf @t_spec_l11Places_5
theorem wq_spec_l11Places_5 x0 x3 x4 x5 : w_spec_l11Places_5 (m_spec_l11Places_5 x0 x3 x4 x5) = u_spec_l11Places_5 w_spec_l11Places_5 (hIn x_spec_l11Places_5 some) x0 x3 x4 x5 := wOf_eq nat_spec_l11Places_5 _
def lh_spec_l11Places_5 : LoopHint := ⟨[0, 3, 4, 5], [], [3], []⟩
def h_spec_l11Places : Hints Rv := ⟨fun k => match k with | 5 => lh_spec_l11Places_5 | _ => ⟨[], [], [], []⟩, fun k => match k with | 5 => some (loopX s_spec_l11Places_5 x_spec_l11Places_5 w_spec_l11Places_5) | _ => none⟩
theorem st_spec_l11Places_5 (n : Nat) (z : s_spec_l11Places_5.T) (k : Ex → Live → Option Rv) : loopN ⟨33, 33⟩ lh_spec_l11Places_5 (den (tab C0 T_spec_l11Places) ⟨33, 33⟩ h_spec_l11Places 1 (loopOf Try.f84 4)) (n + 1) (s_spec_l11Places_5.enc z) k =
    t_spec_l11Places_5 (fun y => loopN ⟨33, 33⟩ lh_spec_l11Places_5 (den (tab C0 T_spec_l11Places) ⟨33, 33⟩ h_spec_l11Places 1 (loopOf Try.f84 4)) n (s_spec_l11Places_5.enc y) k) (hK k x_spec_l11Places_5) z := by kernel_rfl
theorem hs_spec_l11Places : HintsOk (tab C0 T_spec_l11Places) ⟨33, 33⟩ h_spec_l11Places 1 (loops (codeOf Try.f84)) := by
  have hl : loops (codeOf Try.f84) = [loopOf Try.f84 4] := by kernel_rfl
  rw [hl]
  exact HintsOk.cons (n := 5) (lh := lh_spec_l11Places_5) (S := loopX s_spec_l11Places_5 x_spec_l11Places_5 w_spec_l11Places_5) (by kernel_rfl) rfl rfl (loopX_ok nat_spec_l11Places_5 st_spec_l11Places_5)
    (HintsOk.nil)
def t_spec_l11Places {R : Type} (kx : (List Int) → Option R) (a0 : (List Int)) : Option R :=
  Option.bind (w_spec_l11Places_5 (m_spec_l11Places_5 a0 [] (0 : Int) (0 : Int))) (exC x_spec_l11Places_5
  (fun e69 =>
   kx (e69.1.1.1 : List Int), ()))
def g_spec_l11Places (a0 : (List Int)) : Option ((List Int)) := t_spec_l11Places some a0
theorem nat_spec_l11Places {R} kx a0 : @t_spec_l11Places R kx a0 = (g_spec_l11Places a0).bind kx := by
  unfold g_spec_l11Places t_spec_l11Places
  exact nat_exC ⟨fun _ => rfl, trivial⟩
abbrev k_spec_l11Places : Contract := .fx [.val false (.slice (.int .i64))] ((List Int)) (fun z => g_spec_l11Places z.1) (fun b => (.one ⟨false, [(.own (.int .i64) b)]⟩, []))
theorem so_spec_l11Places : Sound C0 84 k_spec_l11Places :=
  Sound.fx (e := false) (t := T_spec_l11Places) (.nil) mixed Try.func84 (by kernel_rfl) (by kernel_rfl) h_spec_l11Places 1 hs_spec_l11Places (fun z => (by kernel_rfl : _ = t_spec_l11Places (fun b => some (k_spec_l11Places.enc b)) z.1).trans (nat_spec_l11Places _ z.1))

/-! ### F85 spec.l00Min -/
def t_spec_l00Min {R : Type} (kx : Int → Option R) (a0 : Int) (a1 : Int) : Option R :=
  cond (decide (a0 < a1))
  (kx a0)
  (kx a1)
def g_spec_l00Min (a0 : Int) (a1 : Int) : Option (Int) := t_spec_l00Min some a0 a1
theorem nat_spec_l00Min {R} kx a0 a1 : @t_spec_l00Min R kx a0 a1 = (g_spec_l00Min a0 a1).bind kx := by
  unfold g_spec_l00Min t_spec_l00Min
  exact nat_cond (rfl) (rfl)
abbrev k_spec_l00Min : Contract := .fx [.val false (.int .i64), .val false (.int .i64)] (Int) (fun z => g_spec_l00Min z.1 z.2.1) (fun b => (.one ⟨false, [(.v (.int .i64 b))]⟩, []))
theorem so_spec_l00Min : Sound C0 85 k_spec_l00Min :=
  Sound.fx (e := false) (.nil) mixed Try.func85 (by kernel_rfl) (by kernel_rfl) noHints 1 noHints_ok (fun z => (by kernel_rfl : _ = t_spec_l00Min (fun b => some (k_spec_l00Min.enc b)) z.1 z.2.1).trans (nat_spec_l00Min _ z.1 z.2.1))

/-! ### F86 spec.l00Max -/
def t_spec_l00Max {R : Type} (kx : Int → Option R) (a0 : Int) (a1 : Int) : Option R :=
  cond (decide (a0 > a1))
  (kx a0)
  (kx a1)
def g_spec_l00Max (a0 : Int) (a1 : Int) : Option (Int) := t_spec_l00Max some a0 a1
theorem nat_spec_l00Max {R} kx a0 a1 : @t_spec_l00Max R kx a0 a1 = (g_spec_l00Max a0 a1).bind kx := by
  unfold g_spec_l00Max t_spec_l00Max
  exact nat_cond (rfl) (rfl)
abbrev k_spec_l00Max : Contract := .fx [.val false (.int .i64), .val false (.int .i64)] (Int) (fun z => g_spec_l00Max z.1 z.2.1) (fun b => (.one ⟨false, [(.v (.int .i64 b))]⟩, []))
theorem so_spec_l00Max : Sound C0 86 k_spec_l00Max :=
  Sound.fx (e := false) (.nil) mixed Try.func86 (by kernel_rfl) (by kernel_rfl) noHints 1 noHints_ok (fun z => (by kernel_rfl : _ = t_spec_l00Max (fun b => some (k_spec_l00Max.enc b)) z.1 z.2.1).trans (nat_spec_l00Max _ z.1 z.2.1))

/-! ### F87 (*spec.l11Cone).overlap -/
def t_spec_l11Cone_overlap {R : Type} (kx : Bool → Option R) (a0 : (Int × ((List Int) × ((List Int) × ((List Int) × ((List Int) × (List Int))))))) (a1 : Int) (a2 : Int) : Option R :=
  cond (a1 != a2)
  (Option.bind (idx a0.2.2.1 a1) fun y104 =>
   Option.bind (idx a0.2.2.1 a2) fun y105 =>
   Option.bind (g_spec_l00Max y104 y105) fun y106 =>
   Option.bind (idx a0.2.2.2.1 a1) fun y107 =>
   Option.bind (idx a0.2.2.2.1 a2) fun y108 =>
   Option.bind (g_spec_l00Min y107 y108) fun y109 =>
   kx (decide (y106 < y109)))
  (kx Bool.false)
def g_spec_l11Cone_overlap (a0 : (Int × ((List Int) × ((List Int) × ((List Int) × ((List Int) × (List Int))))))) (a1 : Int) (a2 : Int) : Option (Bool) := t_spec_l11Cone_overlap some a0 a1 a2
theorem nat_spec_l11Cone_overlap {R} kx a0 a1 a2 : @t_spec_l11Cone_overlap R kx a0 a1 a2 = (g_spec_l11Cone_overlap a0 a1 a2).bind kx := by
  unfold g_spec_l11Cone_overlap t_spec_l11Cone_overlap
  exact nat_cond (nat_bind fun _ => nat_bind fun _ => nat_bind fun _ => nat_bind fun _ => nat_bind fun _ => nat_bind fun _ => rfl) (rfl)
abbrev k_spec_l11Cone_overlap : Contract := .fx [.ptr (.pair (.int .i64) (.pair (.slice (.int .i64)) (.pair (.slice (.int .i64)) (.pair (.slice (.int .i64)) (.pair (.slice (.int .i64)) (.slice (.int .i64))))))), .val false (.int .i64), .val false (.int .i64)] (Bool) (fun z => g_spec_l11Cone_overlap z.1 z.2.1 z.2.2.1) (fun b => (.one ⟨false, [(.v (.bool b))]⟩, []))
theorem so_spec_l11Cone_overlap : Sound C0 87 k_spec_l11Cone_overlap :=
  Sound.fx (e := false) (.cons so_spec_l00Max (.cons so_spec_l00Min (.nil))) mixed Try.func87 (by kernel_rfl) (by kernel_rfl) noHints 1 noHints_ok (fun z => (by kernel_rfl : _ = t_spec_l11Cone_overlap (fun b => some (k_spec_l11Cone_overlap.enc b)) z.1 z.2.1 z.2.2.1).trans (nat_spec_l11Cone_overlap _ z.1 z.2.1 z.2.2.1))

/-! ### F52 spec.l11New -/
def T_spec_l11New : List (FuncId × Contract) := [(84, k_spec_l11Places), (85, k_spec_l00Min), (86, k_spec_l00Max), (87, k_spec_l11Cone_overlap)]
abbrev s_spec_l11New_4 : LS := ⟨[(false, [(.ptr 17 0)]), (false, [(.int .i64)])], [(false, [(.int .i64), (.own (.int .i64)), (.own (.int .i64)), (.own (.int .i64)), (.sl (.int .i64)), (.own (.int .i64))])], []⟩
abbrev e_spec_l11New_4_0 : LS := ⟨[(false, [(.ptr 17 0)])], [(false, [(.int .i64), (.own (.int .i64)), (.own (.int .i64)), (.own (.int .i64)), (.sl (.int .i64)), (.own (.int .i64))])], []⟩
abbrev d_spec_l11New_4_0 (v0 : Int) (v1 : List Int) (v2 : List Int) (v3 : List Int) (v4 : List Int) (v5 : List Int) := (((((), ()), ()), ((v0, v1, v2, v3, v4, v5, ()), ()), ()) : e_spec_l11New_4_0.T)
abbrev x_spec_l11New_4 : List (Ex × LS) := [(.exit 0, e_spec_l11New_4_0)]
abbrev m_spec_l11New_4 (x6 : Int) (b0_0 : Int) (b0_1 : List Int) (b0_2 : List Int) (b0_3 : List Int) (b0_4 : List Int) (b0_5 : List Int) := (((((), ()), (x6, ()), ()), ((b0_0, b0_1, b0_2, b0_3, b0_4, b0_5, ()), ()), ()) : s_spec_l11New_4.T)
def u_spec_l11New_4 {R : Type} (nx : s_spec_l11New_4.T → Option R) (hx : exH R x_spec_l11New_4) (x6 : Int) (b0_0 : Int) (b0_1 : List Int) (b0_2 : List Int) (b0_3 : List Int) (b0_4 : List Int) (b0_5 : List Int) : Option R :=
  cond (decide (x6 < b0_0))
  (Option.bind (idx b0_1 x6) fun y79 =>
   cond (decide (b0_0 = (0 : Int)))
   (none)
   (Option.bind (idx b0_1 (Int.tmod (IntKind.wrap IntKind.i64 (x6 + (1 : Int))) b0_0)) fun y80 =>
    Option.bind (g_spec_l00Min y79 y80) fun y83 =>
    cond (decide ((((List.length b0_2) + (List.length [y83])) * 8) ≤ 70368744177664))
    (cond (decide (((List.length b0_2) + (List.length [y83])) ≤ 70368744177664))
     (Option.bind (g_spec_l00Max y79 y80) fun y86 =>
      cond (decide ((((List.length b0_3) + (List.length [y86])) * 8) ≤ 70368744177664))
      (cond (decide (((List.length b0_3) + (List.length [y86])) ≤ 70368744177664))
       (nx (m_spec_l11New_4 (IntKind.wrap IntKind.i64 (x6 + (1 : Int))) b0_0 b0_1 (b0_2 ++ [y83]) (b0_3 ++ [y86]) b0_4 b0_5))
       (none))
      (none))
     (none))
    (none)))
  (hx.1 (d_spec_l11New_4_0 b0_0 b0_1 b0_2 b0_3 b0_4 b0_5))
def t_spec_l11New_4 {R : Type} (nx : s_spec_l11New_4.T → Option R) (hx : exH R x_spec_l11New_4) (z : s_spec_l11New_4.T) : Option R := u_spec_l11New_4 nx hx z.1.2.1.1 z.2.1.1.1 z.2.1.1.2.1 z.2.1.1.2.2.1 z.2.1.1.2.2.2.1 z.2.1.1.2.2.2.2.1 z.2.1.1.2.2.2.2.2.1
theorem nat_spec_l11New_4 : Natural @t_spec_l11New_4 := fun R nx hx z => by
  show u_spec_l11New_4 nx hx z.1.2.1.1 z.2.1.1.1 z.2.1.1.2.1 z.2.1.1.2.2.1 z.2.1.1.2.2.2.1 z.2.1.1.2.2.2.2.1 z.2.1.1.2.2.2.2.2.1 = (u_spec_l11New_4 (fun y => some (.inl y)) (hIn x_spec_l11New_4 fun x => some (.inr x)) z.1.2.1.1 z.2.1.1.1 z.2.1.1.2.1 z.2.1.1.2.2.1 z.2.1.1.2.2.2.1 z.2.1.1.2.2.2.2.1 z.2.1.1.2.2.2.2.2.1).bind (goOn nx hx)
  unfold u_spec_l11New_4
  exact nat_cond (nat_bind fun _ => nat_cond (rfl) (nat_bind fun _ => nat_bind fun _ => nat_cond (nat_cond (nat_bind fun _ => nat_cond (nat_cond (rfl) (rfl)) (rfl)) (rfl)) (rfl))) (rfl)
def w_spec_l11New_4 : s_spec_l11New_4.T → Option (exT x_spec_l11New_4) := wOf @t_spec_l11New_4
theorem wq_spec_l11New_4 x6 b0_0 b0_1 b0_2 b0_3 b0_4 b0_5 : w_spec_l11New_4 (m_spec_l11New_4 x6 b0_0 b0_1 b0_2 b0_3 b0_4 b0_5) = u_spec_l11New_4 w_spec_l11New_4 (hIn x_spec_l11New_4 some) x6 b0_0 b0_1 b0_2 b0_3 b0_4 b0_5 := wOf_eq nat_spec_l11New_4 _
def lh_spec_l11New_4 : LoopHint := ⟨[5, 6], [17], [5], [17]⟩
abbrev s_spec_l11New_11 : LS := ⟨[(false, [(.ptr 17 0)]), (false, [(.int .i64)])], [(false, [(.int .i64), (.own (.int .i64)), (.own (.int .i64)), (.own (.int .i64)), (.sl (.int .i64)), (.own (.int .i64))])], []⟩
abbrev e_spec_l11New_11_0 : LS := ⟨[(false, [(.ptr 17 0)])], [(false, [(.int .i64), (.own (.int .i64)), (.own (.int .i64)), (.own (.int .i64)), (.sl (.int .i64)), (.own (.int .i64))])], []⟩
abbrev d_spec_l11New_11_0 (v0 : Int) (v1 : List Int) (v2 : List Int) (v3 : List Int) (v4 : List Int) (v5 : List Int) := (((((), ()), ()), ((v0, v1, v2, v3, v4, v5, ()), ()), ()) : e_spec_l11New_11_0.T)
abbrev x_spec_l11New_11 : List (Ex × LS) := [(.exit 2, e_spec_l11New_11_0)]
abbrev m_spec_l11New_11 (x9 : Int) (b0_0 : Int) (b0_1 : List Int) (b0_2 : List Int) (b0_3 : List Int) (b0_4 : List Int) (b0_5 : List Int) := (((((), ()), (x9, ()), ()), ((b0_0, b0_1, b0_2, b0_3, b0_4, b0_5, ()), ()), ()) : s_spec_l11New_11.T)
def u_spec_l11New_11 {R : Type} (nx : s_spec_l11New_11.T → Option R) (hx : exH R x_spec_l11New_11) (x9 : Int) (b0_0 : Int) (b0_1 : List Int) (b0_2 : List Int) (b0_3 : List Int) (b0_4 : List Int) (b0_5 : List Int) : Option R :=
  cond (decide (x9 < (IntKind.wrap IntKind.i64 (b0_0 * b0_0))))
  (cond (decide (b0_0 = (0 : Int)))
   (none)
   (cond (decide (b0_0 = (0 : Int)))
    (none)
    (Option.bind (g_spec_l11Cone_overlap (b0_0, (b0_1, (b0_2, (b0_3, (b0_4, b0_5))))) (IntKind.wrap IntKind.i64 (Int.tdiv x9 b0_0)) (Int.tmod x9 b0_0)) fun y110 =>
     cond y110
     (cond (decide ((((List.length b0_5) + (List.length [(2 : Int)])) * 8) ≤ 70368744177664))
      (cond (decide (((List.length b0_5) + (List.length [(2 : Int)])) ≤ 70368744177664))
       (nx (m_spec_l11New_11 (IntKind.wrap IntKind.i64 (x9 + (1 : Int))) b0_0 b0_1 b0_2 b0_3 b0_4 (b0_5 ++ [(2 : Int)])))
       (none))
      (none))
     (cond (decide ((((List.length b0_5) + (List.length [(0 : Int)])) * 8) ≤ 70368744177664))
      (cond (decide (((List.length b0_5) + (List.length [(0 : Int)])) ≤ 70368744177664))
       (nx (m_spec_l11New_11 (IntKind.wrap IntKind.i64 (x9 + (1 : Int))) b0_0 b0_1 b0_2 b0_3 b0_4 (b0_5 ++ [(0 : Int)])))
       (none))
      (none)))))
  (hx.1 (d_spec_l11New_11_0 b0_0 b0_1 b0_2 b0_3 b0_4 b0_5))
def t_spec_l11New_11 {R : Type} (nx : s_spec_l11New_11.T → Option R) (hx : exH R x_spec_l11New_11) (z : s_spec_l11New_11.T) : Option R := u_spec_l11New_11 nx hx z.1.2.1.1 z.2.1.1.1 z.2.1.1.2.1 z.2.1.1.2.2.1 z.2.1.1.2.2.2.1 z.2.1.1.2.2.2.2.1 z.2.1.1.2.2.2.2.2.1
theorem nat_spec_l11New_11 : Natural @t_spec_l11New_11 := fun R nx hx z => by
  show u_spec_l11New_11 nx hx z.1.2.1.1 z.2.1.1.1 z.2.1.1.2.1 z.2.1.1.2.2.1 z.2.1.1.2.2.2.1 z.2.1.1.2.2.2.2.1 z.2.1.1.2.2.2.2.2.1 = (u_spec_l11New_11 (fun y => some (.inl y)) (hIn x_spec_l11New_11 fun x => some (.inr x)) z.1.2.1.1 z.2.1.1.1 z.2.1.1.2.1 z.2.1.1.2.2.1 z.2.1.1.2.2.2.1 z.2.1.1.2.2.2.2.1 z.2.1.1.2.2.2.2.2.1).bind (goOn nx hx)
  unfold u_spec_l11New_11
  exact nat_cond (nat_cond (rfl) (nat_cond (rfl) (nat_bind fun _ => nat_cond (nat_cond (nat_cond (rfl) (rfl)) (rfl)) (nat_cond (nat_cond (rfl) (rfl)) (rfl))))) (rfl)
def w_spec_l11New_11 : s_spec_l11New_11.T → Option (exT x_spec_l11New_11) := wOf @t_spec_l11New_11
theorem wq_spec_l11New_11 x9 b0_0 b0_1 b0_2 b0_3 b0_4 b0_5 : w_spec_l11New_11 (m_spec_l11New_11 x9 b0_0 b0_1 b0_2 b0_3 b0_4 b0_5) = u_spec_l11New_11 w_spec_l11New_11 (hIn x_spec_l11New_11 some) x9 b0_0 b0_1 b0_2 b0_3 b0_4 b0_5 := wOf_eq nat_spec_l11New_11 _
def lh_spec_l11New_11 : LoopHint := ⟨[5, 9], [17], [5], [17]⟩
def h_spec_l11New : Hints Rv := ⟨fun k => match k with | 4 => lh_spec_l11New_4 | 11 => lh_spec_l11New_11 | _ => ⟨[], [], [], []⟩, fun k => match k with | 4 => some (loopX s_spec_l11New_4 x_spec_l11New_4 w_spec_l11New_4) | 11 => some (loopX s_spec_l11New_11 x_spec_l11New_11 w_spec_l11New_11) | _ => none⟩
theorem st_spec_l11New_4 (n : Nat) (z : s_spec_l11New_4.T) (k : Ex → Live → Option Rv) : loopN ⟨108, 108⟩ lh_spec_l11New_4 (den (tab C0 T_spec_l11New) ⟨108, 108⟩ h_spec_l11New 1 (loopOf Try.f52 3)) (n + 1) (s_spec_l11New_4.enc z) k =
    t_spec_l11New_4 (fun y => loopN ⟨108, 108⟩ lh_spec_l11New_4 (den (tab C0 T_spec_l11New) ⟨108, 108⟩ h_spec_l11New 1 (loopOf Try.f52 3)) n (s_spec_l11New_4.enc y) k) (hK k x_spec_l11New_4) z := by kernel_rfl
theorem st_spec_l11New_11 (n : Nat) (z : s_spec_l11New_11.T) (k : Ex → Live → Option Rv) : loopN ⟨108, 108⟩ lh_spec_l11New_11 (den (tab C0 T_spec_l11New) ⟨108, 108⟩ h_spec_l11New 1 (loopOf Try.f52 10)) (n + 1) (s_spec_l11New_11.enc z) k =
    t_spec_l11New_11 (fun y => loopN ⟨108, 108⟩ lh_spec_l11New_11 (den (tab C0 T_spec_l11New) ⟨108, 108⟩ h_spec_l11New 1 (loopOf Try.f52 10)) n (s_spec_l11New_11.enc y) k) (hK k x_spec_l11New_11) z := by kernel_rfl
theorem hs_spec_l11New : HintsOk (tab C0 T_spec_l11New) ⟨108, 108⟩ h_spec_l11New 1 (loops (codeOf Try.f52)) := by
  have hl : loops (codeOf Try.f52) = [loopOf Try.f52 3, loopOf Try.f52 10] := by kernel_rfl
  rw [hl]
  exact HintsOk.cons (n := 4) (lh := lh_spec_l11New_4) (S := loopX s_spec_l11New_4 x_spec_l11New_4 w_spec_l11New_4) (by kernel_rfl) rfl rfl (loopX_ok nat_spec_l11New_4 st_spec_l11New_4)
    (HintsOk.cons (n := 11) (lh := lh_spec_l11New_11) (S := loopX s_spec_l11New_11 x_spec_l11New_11 w_spec_l11New_11) (by kernel_rfl) rfl rfl (loopX_ok nat_spec_l11New_11 st_spec_l11New_11)
    (HintsOk.nil))
def t_spec_l11New {R : Type} (kx : (Int × ((List Int) × ((List Int) × ((List Int) × ((List Int) × (List Int)))))) → Option R) (a0 : (List Int)) (a1 : (List Int)) : Option R :=
  Option.bind (g_spec_l11Places a0) fun y71 =>
  Option.bind (w_spec_l11New_4 (m_spec_l11New_4 (0 : Int) (((List.length a0) : Nat) : Int) y71 [] [] a1 [])) (exC x_spec_l11New_4
  (fun e87 =>
   Option.bind (w_spec_l11New_11 (m_spec_l11New_11 (0 : Int) (e87.2.1.1.1 : Int) (e87.2.1.1.2.1 : List Int) (e87.2.1.1.2.2.1 : List Int) (e87.2.1.1.2.2.2.1 : List Int) (e87.2.1.1.2.2.2.2.1 : List Int) (e87.2.1.1.2.2.2.2.2.1 : List Int))) (exC x_spec_l11New_11
   (fun e111 =>
    kx ((e111.2.1.1.1 : Int), ((e111.2.1.1.2.1 : List Int), ((e111.2.1.1.2.2.1 : List Int), ((e111.2.1.1.2.2.2.1 : List Int), ((e111.2.1.1.2.2.2.2.1 : List Int), (e111.2.1.1.2.2.2.2.2.1 : List Int)))))), ())), ()))
def g_spec_l11New (a0 : (List Int)) (a1 : (List Int)) : Option ((Int × ((List Int) × ((List Int) × ((List Int) × ((List Int) × (List Int))))))) := t_spec_l11New some a0 a1
theorem nat_spec_l11New {R} kx a0 a1 : @t_spec_l11New R kx a0 a1 = (g_spec_l11New a0 a1).bind kx := by
  unfold g_spec_l11New t_spec_l11New
  exact nat_bind fun _ => nat_exC ⟨fun _ => nat_exC ⟨fun _ => rfl, trivial⟩, trivial⟩
abbrev k_spec_l11New : Contract := .fx [.val false (.slice (.int .i64)), .val false (.slice (.int .i64))] ((Int × ((List Int) × ((List Int) × ((List Int) × ((List Int) × (List Int))))))) (fun z => g_spec_l11New z.1 z.2.1) (fun b => (.one ⟨false, [(.np [(.v (.int .i64 b.1)), (.own (.int .i64) b.2.1), (.own (.int .i64) b.2.2.1), (.own (.int .i64) b.2.2.2.1), (.sl (.int .i64) b.2.2.2.2.1), (.own (.int .i64) b.2.2.2.2.2)])]⟩, []))
theorem so_spec_l11New : Sound C0 52 k_spec_l11New :=
  Sound.fx (e := false) (t := T_spec_l11New) (.cons so_spec_l11Places (.cons so_spec_l00Min (.cons so_spec_l00Max (.cons so_spec_l11Cone_overlap (.nil))))) mixed Try.func52 (by kernel_rfl) (by kernel_rfl) h_spec_l11New 1 hs_spec_l11New (fun z => (by kernel_rfl : _ = t_spec_l11New (fun b => some (k_spec_l11New.enc b)) z.1 z.2.1).trans (nat_spec_l11New _ z.1 z.2.1))

/-! ### F53 spec.l11Form -/
def T_spec_l11Form : List (FuncId × Contract) := [(87, k_spec_l11Cone_overlap), (43, k_spec_l00In)]
abbrev s_spec_l11Form_8 : LS := ⟨[(false, [(.ptr 79 0)]), (false, [(.sl (.int .i64))]), (false, [(.int .i64)]), (false, [(.int .i64)])], [(true, [(.int .i64), (.sl (.int .i64)), (.sl (.int .i64)), (.sl (.int .i64)), (.sl (.int .i64)), (.sl (.int .i64))])], []⟩
abbrev e_spec_l11Form_8_0 : LS := ⟨[(false, [(.ptr 79 0)]), (false, [(.sl (.int .i64))]), (false, [.bool]), (false, [(.int .i64)])], [(true, [(.int .i64), (.sl (.int .i64)), (.sl (.int .i64)), (.sl (.int .i64)), (.sl (.int .i64)), (.sl (.int .i64))])], []⟩
abbrev d_spec_l11Form_8_0 (v0 : List Int) (v1 : Bool) (v2 : Int) (v3 : Int) (v4 : List Int) (v5 : List Int) (v6 : List Int) (v7 : List Int) (v8 : List Int) := (((((), ()), (v0, ()), (v1, ()), (v2, ()), ()), ((v3, v4, v5, v6, v7, v8, ()), ()), ()) : e_spec_l11Form_8_0.T)
abbrev e_spec_l11Form_8_1 : LS := ⟨[(false, [(.ptr 79 0)]), (false, [(.sl (.int .i64))]), (false, [.undef]), (false, [(.int .i64)])], [(true, [(.int .i64), (.sl (.int .i64)), (.sl (.int .i64)), (.sl (.int .i64)), (.sl (.int .i64)), (.sl (.int .i64))])], []⟩
abbrev d_spec_l11Form_8_1 (v0 : List Int) (v1 : Int) (v2 : Int) (v3 : List Int) (v4 : List Int) (v5 : List Int) (v6 : List Int) (v7 : List Int) := (((((), ()), (v0, ()), ((), ()), (v1, ()), ()), ((v2, v3, v4, v5, v6, v7, ()), ()), ()) : e_spec_l11Form_8_1.T)
abbrev x_spec_l11Form_8 : List (Ex × LS) := [(.ret, e_spec_l11Form_8_0), (.exit 2, e_spec_l11Form_8_1)]
abbrev m_spec_l11Form_8 (x1 : List Int) (x5 : Int) (x6 : Int) (b0_0 : Int) (b0_1 : List Int) (b0_2 : List Int) (b0_3 : List Int) (b0_4 : List Int) (b0_5 : List Int) := (((((), ()), (x1, ()), (x5, ()), (x6, ()), ()), ((b0_0, b0_1, b0_2, b0_3, b0_4, b0_5, ()), ()), ()) : s_spec_l11Form_8.T)
def u_spec_l11Form_8 {R : Type} (nx : s_spec_l11Form_8.T → Option R) (hx : exH R x_spec_l11Form_8) (x1 : List Int) (x5 : Int) (x6 : Int) (b0_0 : Int) (b0_1 : List Int) (b0_2 : List Int) (b0_3 : List Int) (b0_4 : List Int) (b0_5 : List Int) : Option R :=
  cond (decide (x6 < b0_0))
  (Option.bind (idx x1 (IntKind.wrap IntKind.i64 ((IntKind.wrap IntKind.i64 (x5 * b0_0)) + x6))) fun y138 =>
   Option.bind (idx x1 (IntKind.wrap IntKind.i64 ((IntKind.wrap IntKind.i64 (x6 * b0_0)) + x5))) fun y139 =>
   cond (y138 != (IntKind.wrap IntKind.i64 ((0 : Int) - y139)))
   (hx.1 (d_spec_l11Form_8_0 x1 Bool.false x5 b0_0 b0_1 b0_2 b0_3 b0_4 b0_5))
   (cond (y138 == (1 : Int))
    (Option.bind (g_spec_l11Cone_overlap (b0_0, (b0_1, (b0_2, (b0_3, (b0_4, b0_5))))) x5 x6) fun y140 =>
     cond (!(Bool.true == y140))
     (hx.1 (d_spec_l11Form_8_0 x1 Bool.false x5 b0_0 b0_1 b0_2 b0_3 b0_4 b0_5))
     (Option.bind (g_spec_l00In y138 (-(1 : Int)) (1 : Int)) fun y141 =>
      cond (!y141)
      (hx.1 (d_spec_l11Form_8_0 x1 Bool.false x5 b0_0 b0_1 b0_2 b0_3 b0_4 b0_5))
      (nx (m_spec_l11Form_8 x1 x5 (IntKind.wrap IntKind.i64 (x6 + (1 : Int))) b0_0 b0_1 b0_2 b0_3 b0_4 b0_5))))
    (Option.bind (g_spec_l11Cone_overlap (b0_0, (b0_1, (b0_2, (b0_3, (b0_4, b0_5))))) x5 x6) fun y142 =>
     cond (!((y138 == (-(1 : Int))) == y142))
     (hx.1 (d_spec_l11Form_8_0 x1 Bool.false x5 b0_0 b0_1 b0_2 b0_3 b0_4 b0_5))
     (Option.bind (g_spec_l00In y138 (-(1 : Int)) (1 : Int)) fun y143 =>
      cond (!y143)
      (hx.1 (d_spec_l11Form_8_0 x1 Bool.false x5 b0_0 b0_1 b0_2 b0_3 b0_4 b0_5))
      (nx (m_spec_l11Form_8 x1 x5 (IntKind.wrap IntKind.i64 (x6 + (1 : Int))) b0_0 b0_1 b0_2 b0_3 b0_4 b0_5))))))
  (hx.2.1 (d_spec_l11Form_8_1 x1 x5 b0_0 b0_1 b0_2 b0_3 b0_4 b0_5))
def t_spec_l11Form_8 {R : Type} (nx : s_spec_l11Form_8.T → Option R) (hx : exH R x_spec_l11Form_8) (z : s_spec_l11Form_8.T) : Option R := u_spec_l11Form_8 nx hx z.1.2.1.1 z.1.2.2.1.1 z.1.2.2.2.1.1 z.2.1.1.1 z.2.1.1.2.1 z.2.1.1.2.2.1 z.2.1.1.2.2.2.1 z.2.1.1.2.2.2.2.1 z.2.1.1.2.2.2.2.2.1
theorem nat_spec_l11Form_8 : Natural @t_spec_l11Form_8 := fun R nx hx z => by
  show u_spec_l11Form_8 nx hx z.1.2.1.1 z.1.2.2.1.1 z.1.2.2.2.1.1 z.2.1.1.1 z.2.1.1.2.1 z.2.1.1.2.2.1 z.2.1.1.2.2.2.1 z.2.1.1.2.2.2.2.1 z.2.1.1.2.2.2.2.2.1 = (u_spec_l11Form_8 (fun y => some (.inl y)) (hIn x_spec_l11Form_8 fun x => some (.inr x)) z.1.2.1.1 z.1.2.2.1.1 z.1.2.2.2.1.1 z.2.1.1.1 z.2.1.1.2.1 z.2.1.1.2.2.1 z.2.1.1.2.2.2.1 z.2.1.1.2.2.2.2.1 z.2.1.1.2.2.2.2.2.1).bind (goOn nx hx)
  unfold u_spec_l11Form_8
  exact nat_cond (nat_bind fun _ => nat_bind fun _ => nat_cond (rfl) (nat_cond (nat_bind fun _ => nat_cond (rfl) (nat_bind fun _ => nat_cond (rfl) (rfl))) (nat_bind fun _ => nat_cond (rfl) (nat_bind fun _ => nat_cond (rfl) (rfl))))) (rfl)
def w_spec_l11Form_8 : s_spec_l11Form_8.T → Option (exT x_spec_l11Form_8) := wOf @t_spec_l11Form_8
theorem wq_spec_l11Form_8 x1 x5 x6 b0_0 b0_1 b0_2 b0_3 b0_4 b0_5 : w_spec_l11Form_8 (m_spec_l11Form_8 x1 x5 x6 b0_0 b0_1 b0_2 b0_3 b0_4 b0_5) = u_spec_l11Form_8 w_spec_l11Form_8 (hIn x_spec_l11Form_8 some) x1 x5 x6 b0_0 b0_1 b0_2 b0_3 b0_4 b0_5 := wOf_eq nat_spec_l11Form_8 _
def lh_spec_l11Form_8 : LoopHint := ⟨[0, 1, 5, 6], [79], [0, 1, 4, 5], [79]⟩
abbrev s_spec_l11Form_5 : LS := ⟨[(false, [(.ptr 79 0)]), (false, [(.sl (.int .i64))]), (false, [(.int .i64)])], [(true, [(.int .i64), (.sl (.int .i64)), (.sl (.int .i64)), (.sl (.int .i64)), (.sl (.int .i64)), (.sl (.int .i64))])], []⟩
abbrev e_spec_l11Form_5_0 : LS := ⟨[(false, [.bool])], [], []⟩
abbrev d_spec_l11Form_5_0 (v0 : Bool) := ((((v0, ()), ()), (), ()) : e_spec_l11Form_5_0.T)
abbrev e_spec_l11Form_5_1 : LS := ⟨[(false, [.undef])], [], []⟩
abbrev d_spec_l11Form_5_1 := (((((), ()), ()), (), ()) : e_spec_l11Form_5_1.T)
abbrev x_spec_l11Form_5 : List (Ex × LS) := [(.ret, e_spec_l11Form_5_0), (.exit 0, e_spec_l11Form_5_1)]
abbrev m_spec_l11Form_5 (x1 : List Int) (x5 : Int) (b0_0 : Int) (b0_1 : List Int) (b0_2 : List Int) (b0_3 : List Int) (b0_4 : List Int) (b0_5 : List Int) := (((((), ()), (x1, ()), (x5, ()), ()), ((b0_0, b0_1, b0_2, b0_3, b0_4, b0_5, ()), ()), ()) : s_spec_l11Form_5.T)
def u_spec_l11Form_5 {R : Type} (nx : s_spec_l11Form_5.T → Option R) (hx : exH R x_spec_l11Form_5) (x1 : List Int) (x5 : Int) (b0_0 : Int) (b0_1 : List Int) (b0_2 : List Int) (b0_3 : List Int) (b0_4 : List Int) (b0_5 : List Int) : Option R :=
  cond (decide (x5 < b0_0))
  (Option.bind (w_spec_l11Form_8 (m_spec_l11Form_8 x1 x5 (0 : Int) b0_0 b0_1 b0_2 b0_3 b0_4 b0_5)) (exC x_spec_l11Form_8
   (fun e144 =>
    hx.1 (d_spec_l11Form_5_0 (e144.1.2.2.1.1 : Bool)), fun e154 =>
    nx (m_spec_l11Form_5 (e154.1.2.1.1 : List Int) (IntKind.wrap IntKind.i64 ((e154.1.2.2.2.1.1 : Int) + (1 : Int))) (e154.2.1.1.1 : Int) (e154.2.1.1.2.1 : List Int) (e154.2.1.1.2.2.1 : List Int) (e154.2.1.1.2.2.2.1 : List Int) (e154.2.1.1.2.2.2.2.1 : List Int) (e154.2.1.1.2.2.2.2.2.1 : List Int)), ())))
  (hx.2.1 (d_spec_l11Form_5_1))
def t_spec_l11Form_5 {R : Type} (nx : s_spec_l11Form_5.T → Option R) (hx : exH R x_spec_l11Form_5) (z : s_spec_l11Form_5.T) : Option R := u_spec_l11Form_5 nx hx z.1.2.1.1 z.1.2.2.1.1 z.2.1.1.1 z.2.1.1.2.1 z.2.1.1.2.2.1 z.2.1.1.2.2.2.1 z.2.1.1.2.2.2.2.1 z.2.1.1.2.2.2.2.2.1
theorem nat_spec_l11Form_5 : Natural @t_spec_l11Form_5 := fun R nx hx z => by
  show u_spec_l11Form_5 nx hx z.1.2.1.1 z.1.2.2.1.1 z.2.1.1.1 z.2.1.1.2.1 z.2.1.1.2.2.1 z.2.1.1.2.2.2.1 z.2.1.1.2.2.2.2.1 z.2.1.1.2.2.2.2.2.1 = (u_spec_l11Form_5 (fun y => some (.inl y)) (hIn x_spec_l11Form_5 fun x => some (.inr x)) z.1.2.1.1 z.1.2.2.1.1 z.2.1.1.1 z.2.1.1.2.1 z.2.1.1.2.2.1 z.2.1.1.2.2.2.1 z.2.1.1.2.2.2.2.1 z.2.1.1.2.2.2.2.2.1).bind (goOn nx hx)
  unfold u_spec_l11Form_5
  exact nat_cond (nat_exC ⟨fun _ => rfl, fun _ => rfl, trivial⟩) (rfl)
def w_spec_l11Form_5 : s_spec_l11Form_5.T → Option (exT x_spec_l11Form_5) := wOf @t_spec_l11Form_5
theorem wq_spec_l11Form_5 x1 x5 b0_0 b0_1 b0_2 b0_3 b0_4 b0_5 : w_spec_l11Form_5 (m_spec_l11Form_5 x1 x5 b0_0 b0_1 b0_2 b0_3 b0_4 b0_5) = u_spec_l11Form_5 w_spec_l11Form_5 (hIn x_spec_l11Form_5 some) x1 x5 b0_0 b0_1 b0_2 b0_3 b0_4 b0_5 := wOf_eq nat_spec_l11Form_5 _
def lh_spec_l11Form_5 : LoopHint := ⟨[0, 1, 5], [79], [4], []⟩
def h_spec_l11Form : Hints Rv := ⟨fun k => match k with | 8 => lh_spec_l11Form_8 | 5 => lh_spec_l11Form_5 | _ => ⟨[], [], [], []⟩, fun k => match k with | 8 => some (loopX s_spec_l11Form_8 x_spec_l11Form_8 w_spec_l11Form_8) | 5 => some (loopX s_spec_l11Form_5 x_spec_l11Form_5 w_spec_l11Form_5) | _ => none⟩
theorem st_spec_l11Form_8 (n : Nat) (z : s_spec_l11Form_8.T) (k : Ex → Live → Option Rv) : loopN ⟨79, 80⟩ lh_spec_l11Form_8 (den (tab C0 T_spec_l11Form) ⟨79, 80⟩ h_spec_l11Form 1 (loopOf Try.f53 7)) (n + 1) (s_spec_l11Form_8.enc z) k =
    t_spec_l11Form_8 (fun y => loopN ⟨79, 80⟩ lh_spec_l11Form_8 (den (tab C0 T_spec_l11Form) ⟨79, 80⟩ h_spec_l11Form 1 (loopOf Try.f53 7)) n (s_spec_l11Form_8.enc y) k) (hK k x_spec_l11Form_8) z := by kernel_rfl
theorem st_spec_l11Form_5 (n : Nat) (z : s_spec_l11Form_5.T) (k : Ex → Live → Option Rv) : loopN ⟨79, 80⟩ lh_spec_l11Form_5 (den (tab C0 T_spec_l11Form) ⟨79, 80⟩ h_spec_l11Form 1 (loopOf Try.f53 4)) (n + 1) (s_spec_l11Form_5.enc z) k =
    t_spec_l11Form_5 (fun y => loopN ⟨79, 80⟩ lh_spec_l11Form_5 (den (tab C0 T_spec_l11Form) ⟨79, 80⟩ h_spec_l11Form 1 (loopOf Try.f53 4)) n (s_spec_l11Form_5.enc y) k) (hK k x_spec_l11Form_5) z := by kernel_rfl
theorem hs_spec_l11Form : HintsOk (tab C0 T_spec_l11Form) ⟨79, 80⟩ h_spec_l11Form 1 (loops (codeOf Try.f53)) := by
  have hl : loops (codeOf Try.f53) = [loopOf Try.f53 4, loopOf Try.f53 7] := by kernel_rfl
  rw [hl]
  exact HintsOk.cons (n := 5) (lh := lh_spec_l11Form_5) (S := loopX s_spec_l11Form_5 x_spec_l11Form_5 w_spec_l11Form_5) (by kernel_rfl) rfl rfl (loopX_ok nat_spec_l11Form_5 st_spec_l11Form_5)
    (HintsOk.cons (n := 8) (lh := lh_spec_l11Form_8) (S := loopX s_spec_l11Form_8 x_spec_l11Form_8 w_spec_l11Form_8) (by kernel_rfl) rfl rfl (loopX_ok nat_spec_l11Form_8 st_spec_l11Form_8)
    (HintsOk.nil))
def t_spec_l11Form {R : Type} (kx : Bool → Option R) (a0 : (Int × ((List Int) × ((List Int) × ((List Int) × ((List Int) × (List Int))))))) (a1 : (List Int)) : Option R :=
  cond ((((List.length a1) : Nat) : Int) != (IntKind.wrap IntKind.i64 (a0.1 * a0.1)))
  (kx Bool.false)
  (Option.bind (w_spec_l11Form_5 (m_spec_l11Form_5 a1 (0 : Int) a0.1 a0.2.1 a0.2.2.1 a0.2.2.2.1 a0.2.2.2.2.1 a0.2.2.2.2.2)) (exC x_spec_l11Form_5
   (fun e163 =>
    kx (e163.1.1.1 : Bool), fun _ =>
    kx Bool.true, ())))
def g_spec_l11Form (a0 : (Int × ((List Int) × ((List Int) × ((List Int) × ((List Int) × (List Int))))))) (a1 : (List Int)) : Option (Bool) := t_spec_l11Form some a0 a1
theorem nat_spec_l11Form {R} kx a0 a1 : @t_spec_l11Form R kx a0 a1 = (g_spec_l11Form a0 a1).bind kx := by
  unfold g_spec_l11Form t_spec_l11Form
  exact nat_cond (rfl) (nat_exC ⟨fun _ => rfl, fun _ => rfl, trivial⟩)
abbrev k_spec_l11Form : Contract := .fx [.ptr (.pair (.int .i64) (.pair (.slice (.int .i64)) (.pair (.slice (.int .i64)) (.pair (.slice (.int .i64)) (.pair (.slice (.int .i64)) (.slice (.int .i64))))))), .val false (.slice (.int .i64))] (Bool) (fun z => g_spec_l11Form z.1 z.2.1) (fun b => (.one ⟨false, [(.v (.bool b))]⟩, []))
theorem so_spec_l11Form : Sound C0 53 k_spec_l11Form :=
  Sound.fx (e := false) (t := T_spec_l11Form) (.cons so_spec_l11Cone_overlap (.cons so_spec_l00In (.nil))) mixed Try.func53 (by kernel_rfl) (by kernel_rfl) h_spec_l11Form 1 hs_spec_l11Form (fun z => (by kernel_rfl : _ = t_spec_l11Form (fun b => some (k_spec_l11Form.enc b)) z.1 z.2.1).trans (nat_spec_l11Form _ z.1 z.2.1))

/-! ### F54 spec.l00Own -/
def t_spec_l00Own {R : Type} (kx : (List Int) → Option R) (a0 : (List Int)) : Option R :=
  cond (decide ((((List.length ([] : List Int)) + (List.length a0)) * 8) ≤ 70368744177664))
  (cond (decide (((List.length ([] : List Int)) + (List.length a0)) ≤ 70368744177664))
   (kx ([] ++ a0))
   (none))
  (none)
def g_spec_l00Own (a0 : (List Int)) : Option ((List Int)) := t_spec_l00Own some a0
theorem nat_spec_l00Own {R} kx a0 : @t_spec_l00Own R kx a0 = (g_spec_l00Own a0).bind kx := by
  unfold g_spec_l00Own t_spec_l00Own
  exact nat_cond (nat_cond (rfl) (rfl)) (rfl)
abbrev k_spec_l00Own : Contract := .fx [.val false (.slice (.int .i64))] ((List Int)) (fun z => g_spec_l00Own z.1) (fun b => (.one ⟨false, [(.own (.int .i64) b)]⟩, []))
theorem so_spec_l00Own : Sound C0 54 k_spec_l00Own :=
  Sound.fx (e := false) (.nil) mixed Try.func54 (by kernel_rfl) (by kernel_rfl) noHints 1 noHints_ok (fun z => (by kernel_rfl : _ = t_spec_l00Own (fun b => some (k_spec_l00Own.enc b)) z.1).trans (nat_spec_l00Own _ z.1))

/-! ### F113 (*spec.l11Cone).before -/
def t_spec_l11Cone_before {R : Type} (kx : Int → Option R) (a0 : (Int × ((List Int) × ((List Int) × ((List Int) × ((List Int) × (List Int))))))) (a1 : Int) : Option R :=
  cond (decide (a0.1 = (0 : Int)))
  (none)
  (kx (Int.tmod (IntKind.wrap IntKind.i64 ((IntKind.wrap IntKind.i64 (a1 + a0.1)) - (1 : Int))) a0.1))
def g_spec_l11Cone_before (a0 : (Int × ((List Int) × ((List Int) × ((List Int) × ((List Int) × (List Int))))))) (a1 : Int) : Option (Int) := t_spec_l11Cone_before some a0 a1
theorem nat_spec_l11Cone_before {R} kx a0 a1 : @t_spec_l11Cone_before R kx a0 a1 = (g_spec_l11Cone_before a0 a1).bind kx := by
  unfold g_spec_l11Cone_before t_spec_l11Cone_before
  exact nat_cond (rfl) (rfl)
abbrev k_spec_l11Cone_before : Contract := .fx [.ptr (.pair (.int .i64) (.pair (.slice (.int .i64)) (.pair (.slice (.int .i64)) (.pair (.slice (.int .i64)) (.pair (.slice (.int .i64)) (.slice (.int .i64))))))), .val false (.int .i64)] (Int) (fun z => g_spec_l11Cone_before z.1 z.2.1) (fun b => (.one ⟨false, [(.v (.int .i64 b))]⟩, []))
theorem so_spec_l11Cone_before : Sound C0 113 k_spec_l11Cone_before :=
  Sound.fx (e := false) (.nil) mixed Try.func113 (by kernel_rfl) (by kernel_rfl) noHints 1 noHints_ok (fun z => (by kernel_rfl : _ = t_spec_l11Cone_before (fun b => some (k_spec_l11Cone_before.enc b)) z.1 z.2.1).trans (nat_spec_l11Cone_before _ z.1 z.2.1))

/-! ### F126 (*spec.l11Cone).is -/
def t_spec_l11Cone_is {R : Type} (kx : Int → Option R) (a0 : (Int × ((List Int) × ((List Int) × ((List Int) × ((List Int) × (List Int))))))) (a1 : Int) (a2 : Int) : Option R :=
  Option.bind (idx a0.2.2.2.2.2 (IntKind.wrap IntKind.i64 ((IntKind.wrap IntKind.i64 (a1 * a0.1)) + a2))) fun y205 =>
  kx y205
def g_spec_l11Cone_is (a0 : (Int × ((List Int) × ((List Int) × ((List Int) × ((List Int) × (List Int))))))) (a1 : Int) (a2 : Int) : Option (Int) := t_spec_l11Cone_is some a0 a1 a2
theorem nat_spec_l11Cone_is {R} kx a0 a1 a2 : @t_spec_l11Cone_is R kx a0 a1 a2 = (g_spec_l11Cone_is a0 a1 a2).bind kx := by
  unfold g_spec_l11Cone_is t_spec_l11Cone_is
  exact nat_bind fun _ => rfl
abbrev k_spec_l11Cone_is : Contract := .fx [.ptr (.pair (.int .i64) (.pair (.slice (.int .i64)) (.pair (.slice (.int .i64)) (.pair (.slice (.int .i64)) (.pair (.slice (.int .i64)) (.slice (.int .i64))))))), .val false (.int .i64), .val false (.int .i64)] (Int) (fun z => g_spec_l11Cone_is z.1 z.2.1 z.2.2.1) (fun b => (.one ⟨false, [(.v (.int .i64 b))]⟩, []))
theorem so_spec_l11Cone_is : Sound C0 126 k_spec_l11Cone_is :=
  Sound.fx (e := false) (.nil) mixed Try.func126 (by kernel_rfl) (by kernel_rfl) noHints 1 noHints_ok (fun z => (by kernel_rfl : _ = t_spec_l11Cone_is (fun b => some (k_spec_l11Cone_is.enc b)) z.1 z.2.1 z.2.2.1).trans (nat_spec_l11Cone_is _ z.1 z.2.1 z.2.2.1))

/-! ### F117 (*spec.l11Cone).above -/
def t_spec_l11Cone_above {R : Type} (kx : Bool → Option R) (a0 : (Int × ((List Int) × ((List Int) × ((List Int) × ((List Int) × (List Int))))))) (a1 : Int) (a2 : Int) : Option R :=
  Option.bind (g_spec_l11Cone_is a0 a1 a2) fun y206 =>
  kx (y206 == (1 : Int))
def g_spec_l11Cone_above (a0 : (Int × ((List Int) × ((List Int) × ((List Int) × ((List Int) × (List Int))))))) (a1 : Int) (a2 : Int) : Option (Bool) := t_spec_l11Cone_above some a0 a1 a2
theorem nat_spec_l11Cone_above {R} kx a0 a1 a2 : @t_spec_l11Cone_above R kx a0 a1 a2 = (g_spec_l11Cone_above a0 a1 a2).bind kx := by
  unfold g_spec_l11Cone_above t_spec_l11Cone_above
  exact nat_bind fun _ => rfl
abbrev k_spec_l11Cone_above : Contract := .fx [.ptr (.pair (.int .i64) (.pair (.slice (.int .i64)) (.pair (.slice (.int .i64)) (.pair (.slice (.int .i64)) (.pair (.slice (.int .i64)) (.slice (.int .i64))))))), .val false (.int .i64), .val false (.int .i64)] (Bool) (fun z => g_spec_l11Cone_above z.1 z.2.1 z.2.2.1) (fun b => (.one ⟨false, [(.v (.bool b))]⟩, []))
theorem so_spec_l11Cone_above : Sound C0 117 k_spec_l11Cone_above :=
  Sound.fx (e := false) (.cons so_spec_l11Cone_is (.nil)) mixed Try.func117 (by kernel_rfl) (by kernel_rfl) noHints 1 noHints_ok (fun z => (by kernel_rfl : _ = t_spec_l11Cone_above (fun b => some (k_spec_l11Cone_above.enc b)) z.1 z.2.1 z.2.2.1).trans (nat_spec_l11Cone_above _ z.1 z.2.1 z.2.2.1))

/-! ### F114 (*spec.l11Cone).between -/
def t_spec_l11Cone_between {R : Type} (kx : Bool → Option R) (a0 : (Int × ((List Int) × ((List Int) × ((List Int) × ((List Int) × (List Int))))))) (a1 : Int) (a2 : Int) (a3 : Int) : Option R :=
  Option.bind (g_spec_l11Cone_above a0 a2 a1) fun y207 =>
  cond y207
  (Option.bind (g_spec_l11Cone_above a0 a1 a3) fun y208 =>
   cond y208
   (kx Bool.true)
   (Option.bind (g_spec_l11Cone_above a0 a3 a1) fun y209 =>
    cond y209
    (Option.bind (g_spec_l11Cone_above a0 a1 a2) fun y210 =>
     kx y210)
    (kx Bool.false)))
  (Option.bind (g_spec_l11Cone_above a0 a3 a1) fun y211 =>
   cond y211
   (Option.bind (g_spec_l11Cone_above a0 a1 a2) fun y212 =>
    kx y212)
   (kx Bool.false))
def g_spec_l11Cone_between (a0 : (Int × ((List Int) × ((List Int) × ((List Int) × ((List Int) × (List Int))))))) (a1 : Int) (a2 : Int) (a3 : Int) : Option (Bool) := t_spec_l11Cone_between some a0 a1 a2 a3
theorem nat_spec_l11Cone_between {R} kx a0 a1 a2 a3 : @t_spec_l11Cone_between R kx a0 a1 a2 a3 = (g_spec_l11Cone_between a0 a1 a2 a3).bind kx := by
  unfold g_spec_l11Cone_between t_spec_l11Cone_between
  exact nat_bind fun _ => nat_cond (nat_bind fun _ => nat_cond (rfl) (nat_bind fun _ => nat_cond (nat_bind fun _ => rfl) (rfl))) (nat_bind fun _ => nat_cond (nat_bind fun _ => rfl) (rfl))
abbrev k_spec_l11Cone_between : Contract := .fx [.ptr (.pair (.int .i64) (.pair (.slice (.int .i64)) (.pair (.slice (.int .i64)) (.pair (.slice (.int .i64)) (.pair (.slice (.int .i64)) (.slice (.int .i64))))))), .val false (.int .i64), .val false (.int .i64), .val false (.int .i64)] (Bool) (fun z => g_spec_l11Cone_between z.1 z.2.1 z.2.2.1 z.2.2.2.1) (fun b => (.one ⟨false, [(.v (.bool b))]⟩, []))
theorem so_spec_l11Cone_between : Sound C0 114 k_spec_l11Cone_between :=
  Sound.fx (e := false) (.cons so_spec_l11Cone_above (.nil)) mixed Try.func114 (by kernel_rfl) (by kernel_rfl) noHints 1 noHints_ok (fun z => (by kernel_rfl : _ = t_spec_l11Cone_between (fun b => some (k_spec_l11Cone_between.enc b)) z.1 z.2.1 z.2.2.1 z.2.2.2.1).trans (nat_spec_l11Cone_between _ z.1 z.2.1 z.2.2.1 z.2.2.2.1))

/-! ### F115 (*spec.l11Cone).right -/
def t_spec_l11Cone_right {R : Type} (kx : Bool → Option R) (a0 : (Int × ((List Int) × ((List Int) × ((List Int) × ((List Int) × (List Int))))))) (a1 : Int) : Option R :=
  kx ((Int.tmod a1 (2 : Int)) == (0 : Int))
def g_spec_l11Cone_right (a0 : (Int × ((List Int) × ((List Int) × ((List Int) × ((List Int) × (List Int))))))) (a1 : Int) : Option (Bool) := t_spec_l11Cone_right some a0 a1
theorem nat_spec_l11Cone_right {R} kx a0 a1 : @t_spec_l11Cone_right R kx a0 a1 = (g_spec_l11Cone_right a0 a1).bind kx := by
  unfold g_spec_l11Cone_right t_spec_l11Cone_right
  exact rfl
abbrev k_spec_l11Cone_right : Contract := .fx [.ptr (.pair (.int .i64) (.pair (.slice (.int .i64)) (.pair (.slice (.int .i64)) (.pair (.slice (.int .i64)) (.pair (.slice (.int .i64)) (.slice (.int .i64))))))), .val false (.int .i64)] (Bool) (fun z => g_spec_l11Cone_right z.1 z.2.1) (fun b => (.one ⟨false, [(.v (.bool b))]⟩, []))
theorem so_spec_l11Cone_right : Sound C0 115 k_spec_l11Cone_right :=
  Sound.fx (e := false) (.nil) mixed Try.func115 (by kernel_rfl) (by kernel_rfl) noHints 1 noHints_ok (fun z => (by kernel_rfl : _ = t_spec_l11Cone_right (fun b => some (k_spec_l11Cone_right.enc b)) z.1 z.2.1).trans (nat_spec_l11Cone_right _ z.1 z.2.1))

/-! ### F116 (*spec.l11Cone).outside -/
def t_spec_l11Cone_outside {R : Type} (kx : Bool → Option R) (a0 : (Int × ((List Int) × ((List Int) × ((List Int) × ((List Int) × (List Int))))))) (a1 : Int) (a2 : Int) (a3 : Int) : Option R :=
  Option.bind (g_spec_l11Cone_above a0 a2 a1) fun y226 =>
  cond y226
  (Option.bind (g_spec_l11Cone_above a0 a3 a1) fun y227 =>
   cond y227
   (kx Bool.true)
   (Option.bind (g_spec_l11Cone_above a0 a1 a2) fun y228 =>
    cond y228
    (Option.bind (g_spec_l11Cone_above a0 a1 a3) fun y229 =>
     kx y229)
    (kx Bool.false)))
  (Option.bind (g_spec_l11Cone_above a0 a1 a2) fun y230 =>
   cond y230
   (Option.bind (g_spec_l11Cone_above a0 a1 a3) fun y231 =>
    kx y231)
   (kx Bool.false))
def g_spec_l11Cone_outside (a0 : (Int × ((List Int) × ((List Int) × ((List Int) × ((List Int) × (List Int))))))) (a1 : Int) (a2 : Int) (a3 : Int) : Option (Bool) := t_spec_l11Cone_outside some a0 a1 a2 a3
theorem nat_spec_l11Cone_outside {R} kx a0 a1 a2 a3 : @t_spec_l11Cone_outside R kx a0 a1 a2 a3 = (g_spec_l11Cone_outside a0 a1 a2 a3).bind kx := by
  unfold g_spec_l11Cone_outside t_spec_l11Cone_outside
  exact nat_bind fun _ => nat_cond (nat_bind fun _ => nat_cond (rfl) (nat_bind fun _ => nat_cond (nat_bind fun _ => rfl) (rfl))) (nat_bind fun _ => nat_cond (nat_bind fun _ => rfl) (rfl))
abbrev k_spec_l11Cone_outside : Contract := .fx [.ptr (.pair (.int .i64) (.pair (.slice (.int .i64)) (.pair (.slice (.int .i64)) (.pair (.slice (.int .i64)) (.pair (.slice (.int .i64)) (.slice (.int .i64))))))), .val false (.int .i64), .val false (.int .i64), .val false (.int .i64)] (Bool) (fun z => g_spec_l11Cone_outside z.1 z.2.1 z.2.2.1 z.2.2.2.1) (fun b => (.one ⟨false, [(.v (.bool b))]⟩, []))
theorem so_spec_l11Cone_outside : Sound C0 116 k_spec_l11Cone_outside :=
  Sound.fx (e := false) (.cons so_spec_l11Cone_above (.nil)) mixed Try.func116 (by kernel_rfl) (by kernel_rfl) noHints 1 noHints_ok (fun z => (by kernel_rfl : _ = t_spec_l11Cone_outside (fun b => some (k_spec_l11Cone_outside.enc b)) z.1 z.2.1 z.2.2.1 z.2.2.2.1).trans (nat_spec_l11Cone_outside _ z.1 z.2.1 z.2.2.1 z.2.2.2.1))

/-! ### F88 (*spec.l11Cone).crossed -/
def T_spec_l11Cone_crossed : List (FuncId × Contract) := [(113, k_spec_l11Cone_before), (114, k_spec_l11Cone_between), (115, k_spec_l11Cone_right), (116, k_spec_l11Cone_outside)]
abbrev s_spec_l11Cone_crossed_4 : LS := ⟨[(false, [(.ptr 116 0)]), (false, [(.int .i64)]), (false, [(.int .i64)]), (false, [(.int .i64)])], [(true, [(.int .i64), (.sl (.int .i64)), (.sl (.int .i64)), (.sl (.int .i64)), (.sl (.int .i64)), (.sl (.int .i64))])], []⟩
abbrev e_spec_l11Cone_crossed_4_0 : LS := ⟨[(false, [.bool])], [], []⟩
abbrev d_spec_l11Cone_crossed_4_0 (v0 : Bool) := ((((v0, ()), ()), (), ()) : e_spec_l11Cone_crossed_4_0.T)
abbrev e_spec_l11Cone_crossed_4_1 : LS := ⟨[(false, [.undef])], [], []⟩
abbrev d_spec_l11Cone_crossed_4_1 := (((((), ()), ()), (), ()) : e_spec_l11Cone_crossed_4_1.T)
abbrev x_spec_l11Cone_crossed_4 : List (Ex × LS) := [(.ret, e_spec_l11Cone_crossed_4_0), (.exit 0, e_spec_l11Cone_crossed_4_1)]
abbrev m_spec_l11Cone_crossed_4 (x1 : Int) (x5 : Int) (x6 : Int) (b0_0 : Int) (b0_1 : List Int) (b0_2 : List Int) (b0_3 : List Int) (b0_4 : List Int) (b0_5 : List Int) := (((((), ()), (x1, ()), (x5, ()), (x6, ()), ()), ((b0_0, b0_1, b0_2, b0_3, b0_4, b0_5, ()), ()), ()) : s_spec_l11Cone_crossed_4.T)
def u_spec_l11Cone_crossed_4 {R : Type} (nx : s_spec_l11Cone_crossed_4.T → Option R) (hx : exH R x_spec_l11Cone_crossed_4) (x1 : Int) (x5 : Int) (x6 : Int) (b0_0 : Int) (b0_1 : List Int) (b0_2 : List Int) (b0_3 : List Int) (b0_4 : List Int) (b0_5 : List Int) : Option R :=
  cond (decide (x6 < b0_0))
  (Option.bind (idx b0_2 x6) fun y191 =>
   Option.bind (idx b0_1 x1) fun y192 =>
   cond (decide (y191 < y192))
   (Option.bind (idx b0_1 x1) fun y193 =>
    Option.bind (idx b0_3 x6) fun y194 =>
    cond (decide (y193 < y194))
    (Option.bind (g_spec_l11Cone_between (b0_0, (b0_1, (b0_2, (b0_3, (b0_4, b0_5))))) x6 x5 x1) fun y213 =>
     cond y213
     (hx.1 (d_spec_l11Cone_crossed_4_0 Bool.true))
     (Option.bind (g_spec_l11Cone_before (b0_0, (b0_1, (b0_2, (b0_3, (b0_4, b0_5))))) x6) fun y214 =>
      cond (x6 == x1)
      (nx (m_spec_l11Cone_crossed_4 x1 x5 (IntKind.wrap IntKind.i64 (x6 + (1 : Int))) b0_0 b0_1 b0_2 b0_3 b0_4 b0_5))
      (Option.bind (idx b0_1 x6) fun y215 =>
       Option.bind (idx b0_1 x1) fun y216 =>
       cond (y215 != y216)
       (nx (m_spec_l11Cone_crossed_4 x1 x5 (IntKind.wrap IntKind.i64 (x6 + (1 : Int))) b0_0 b0_1 b0_2 b0_3 b0_4 b0_5))
       (Option.bind (g_spec_l11Cone_right (b0_0, (b0_1, (b0_2, (b0_3, (b0_4, b0_5))))) x6) fun y219 =>
        Option.bind (g_spec_l11Cone_right (b0_0, (b0_1, (b0_2, (b0_3, (b0_4, b0_5))))) x1) fun y220 =>
        cond (!(y219 == y220))
        (nx (m_spec_l11Cone_crossed_4 x1 x5 (IntKind.wrap IntKind.i64 (x6 + (1 : Int))) b0_0 b0_1 b0_2 b0_3 b0_4 b0_5))
        (Option.bind (g_spec_l11Cone_between (b0_0, (b0_1, (b0_2, (b0_3, (b0_4, b0_5))))) y214 x5 x1) fun y221 =>
         cond y221
         (Option.bind (g_spec_l11Cone_outside (b0_0, (b0_1, (b0_2, (b0_3, (b0_4, b0_5))))) x6 x5 x1) fun y232 =>
          cond y232
          (hx.1 (d_spec_l11Cone_crossed_4_0 Bool.true))
          (Option.bind (g_spec_l11Cone_outside (b0_0, (b0_1, (b0_2, (b0_3, (b0_4, b0_5))))) y214 x5 x1) fun y233 =>
           cond y233
           (Option.bind (g_spec_l11Cone_between (b0_0, (b0_1, (b0_2, (b0_3, (b0_4, b0_5))))) x6 x5 x1) fun y234 =>
            cond y234
            (hx.1 (d_spec_l11Cone_crossed_4_0 Bool.true))
            (nx (m_spec_l11Cone_crossed_4 x1 x5 (IntKind.wrap IntKind.i64 (x6 + (1 : Int))) b0_0 b0_1 b0_2 b0_3 b0_4 b0_5)))
           (nx (m_spec_l11Cone_crossed_4 x1 x5 (IntKind.wrap IntKind.i64 (x6 + (1 : Int))) b0_0 b0_1 b0_2 b0_3 b0_4 b0_5))))
         (Option.bind (g_spec_l11Cone_outside (b0_0, (b0_1, (b0_2, (b0_3, (b0_4, b0_5))))) y214 x5 x1) fun y235 =>
          cond y235
          (Option.bind (g_spec_l11Cone_between (b0_0, (b0_1, (b0_2, (b0_3, (b0_4, b0_5))))) x6 x5 x1) fun y236 =>
           cond y236
           (hx.1 (d_spec_l11Cone_crossed_4_0 Bool.true))
           (nx (m_spec_l11Cone_crossed_4 x1 x5 (IntKind.wrap IntKind.i64 (x6 + (1 : Int))) b0_0 b0_1 b0_2 b0_3 b0_4 b0_5)))
          (nx (m_spec_l11Cone_crossed_4 x1 x5 (IntKind.wrap IntKind.i64 (x6 + (1 : Int))) b0_0 b0_1 b0_2 b0_3 b0_4 b0_5))))))))
    (Option.bind (g_spec_l11Cone_before (b0_0, (b0_1, (b0_2, (b0_3, (b0_4, b0_5))))) x6) fun y237 =>
     cond (x6 == x1)
     (nx (m_spec_l11Cone_crossed_4 x1 x5 (IntKind.wrap IntKind.i64 (x6 + (1 : Int))) b0_0 b0_1 b0_2 b0_3 b0_4 b0_5))
     (Option.bind (idx b0_1 x6) fun y238 =>
      Option.bind (idx b0_1 x1) fun y239 =>
      cond (y238 != y239)
      (nx (m_spec_l11Cone_crossed_4 x1 x5 (IntKind.wrap IntKind.i64 (x6 + (1 : Int))) b0_0 b0_1 b0_2 b0_3 b0_4 b0_5))
      (Option.bind (g_spec_l11Cone_right (b0_0, (b0_1, (b0_2, (b0_3, (b0_4, b0_5))))) x6) fun y240 =>
       Option.bind (g_spec_l11Cone_right (b0_0, (b0_1, (b0_2, (b0_3, (b0_4, b0_5))))) x1) fun y241 =>
       cond (!(y240 == y241))
       (nx (m_spec_l11Cone_crossed_4 x1 x5 (IntKind.wrap IntKind.i64 (x6 + (1 : Int))) b0_0 b0_1 b0_2 b0_3 b0_4 b0_5))
       (Option.bind (g_spec_l11Cone_between (b0_0, (b0_1, (b0_2, (b0_3, (b0_4, b0_5))))) y237 x5 x1) fun y242 =>
        cond y242
        (Option.bind (g_spec_l11Cone_outside (b0_0, (b0_1, (b0_2, (b0_3, (b0_4, b0_5))))) x6 x5 x1) fun y243 =>
         cond y243
         (hx.1 (d_spec_l11Cone_crossed_4_0 Bool.true))
         (Option.bind (g_spec_l11Cone_outside (b0_0, (b0_1, (b0_2, (b0_3, (b0_4, b0_5))))) y237 x5 x1) fun y244 =>
          cond y244
          (Option.bind (g_spec_l11Cone_between (b0_0, (b0_1, (b0_2, (b0_3, (b0_4, b0_5))))) x6 x5 x1) fun y245 =>
           cond y245
           (hx.1 (d_spec_l11Cone_crossed_4_0 Bool.true))
           (nx (m_spec_l11Cone_crossed_4 x1 x5 (IntKind.wrap IntKind.i64 (x6 + (1 : Int))) b0_0 b0_1 b0_2 b0_3 b0_4 b0_5)))
          (nx (m_spec_l11Cone_crossed_4 x1 x5 (IntKind.wrap IntKind.i64 (x6 + (1 : Int))) b0_0 b0_1 b0_2 b0_3 b0_4 b0_5))))
        (Option.bind (g_spec_l11Cone_outside (b0_0, (b0_1, (b0_2, (b0_3, (b0_4, b0_5))))) y237 x5 x1) fun y246 =>
         cond y246
         (Option.bind (g_spec_l11Cone_between (b0_0, (b0_1, (b0_2, (b0_3, (b0_4, b0_5))))) x6 x5 x1) fun y247 =>
          cond y247
          (hx.1 (d_spec_l11Cone_crossed_4_0 Bool.true))
          (nx (m_spec_l11Cone_crossed_4 x1 x5 (IntKind.wrap IntKind.i64 (x6 + (1 : Int))) b0_0 b0_1 b0_2 b0_3 b0_4 b0_5)))
         (nx (m_spec_l11Cone_crossed_4 x1 x5 (IntKind.wrap IntKind.i64 (x6 + (1 : Int))) b0_0 b0_1 b0_2 b0_3 b0_4 b0_5))))))))
   (Option.bind (g_spec_l11Cone_before (b0_0, (b0_1, (b0_2, (b0_3, (b0_4, b0_5))))) x6) fun y248 =>
    cond (x6 == x1)
    (nx (m_spec_l11Cone_crossed_4 x1 x5 (IntKind.wrap IntKind.i64 (x6 + (1 : Int))) b0_0 b0_1 b0_2 b0_3 b0_4 b0_5))
    (Option.bind (idx b0_1 x6) fun y249 =>
     Option.bind (idx b0_1 x1) fun y250 =>
     cond (y249 != y250)
     (nx (m_spec_l11Cone_crossed_4 x1 x5 (IntKind.wrap IntKind.i64 (x6 + (1 : Int))) b0_0 b0_1 b0_2 b0_3 b0_4 b0_5))
     (Option.bind (g_spec_l11Cone_right (b0_0, (b0_1, (b0_2, (b0_3, (b0_4, b0_5))))) x6) fun y251 =>
      Option.bind (g_spec_l11Cone_right (b0_0, (b0_1, (b0_2, (b0_3, (b0_4, b0_5))))) x1) fun y252 =>
      cond (!(y251 == y252))
      (nx (m_spec_l11Cone_crossed_4 x1 x5 (IntKind.wrap IntKind.i64 (x6 + (1 : Int))) b0_0 b0_1 b0_2 b0_3 b0_4 b0_5))
      (Option.bind (g_spec_l11Cone_between (b0_0, (b0_1, (b0_2, (b0_3, (b0_4, b0_5))))) y248 x5 x1) fun y253 =>
       cond y253
       (Option.bind (g_spec_l11Cone_outside (b0_0, (b0_1, (b0_2, (b0_3, (b0_4, b0_5))))) x6 x5 x1) fun y254 =>
        cond y254
        (hx.1 (d_spec_l11Cone_crossed_4_0 Bool.true))
        (Option.bind (g_spec_l11Cone_outside (b0_0, (b0_1, (b0_2, (b0_3, (b0_4, b0_5))))) y248 x5 x1) fun y255 =>
         cond y255
         (Option.bind (g_spec_l11Cone_between (b0_0, (b0_1, (b0_2, (b0_3, (b0_4, b0_5))))) x6 x5 x1) fun y256 =>
          cond y256
          (hx.1 (d_spec_l11Cone_crossed_4_0 Bool.true))
          (nx (m_spec_l11Cone_crossed_4 x1 x5 (IntKind.wrap IntKind.i64 (x6 + (1 : Int))) b0_0 b0_1 b0_2 b0_3 b0_4 b0_5)))
         (nx (m_spec_l11Cone_crossed_4 x1 x5 (IntKind.wrap IntKind.i64 (x6 + (1 : Int))) b0_0 b0_1 b0_2 b0_3 b0_4 b0_5))))
       (Option.bind (g_spec_l11Cone_outside (b0_0, (b0_1, (b0_2, (b0_3, (b0_4, b0_5))))) y248 x5 x1) fun y257 =>
        cond y257
        (Option.bind (g_spec_l11Cone_between (b0_0, (b0_1, (b0_2, (b0_3, (b0_4, b0_5))))) x6 x5 x1) fun y258 =>
         cond y258
         (hx.1 (d_spec_l11Cone_crossed_4_0 Bool.true))
         (nx (m_spec_l11Cone_crossed_4 x1 x5 (IntKind.wrap IntKind.i64 (x6 + (1 : Int))) b0_0 b0_1 b0_2 b0_3 b0_4 b0_5)))
        (nx (m_spec_l11Cone_crossed_4 x1 x5 (IntKind.wrap IntKind.i64 (x6 + (1 : Int))) b0_0 b0_1 b0_2 b0_3 b0_4 b0_5))))))))
  (hx.2.1 (d_spec_l11Cone_crossed_4_1))
def t_spec_l11Cone_crossed_4 {R : Type} (nx : s_spec_l11Cone_crossed_4.T → Option R) (hx : exH R x_spec_l11Cone_crossed_4) (z : s_spec_l11Cone_crossed_4.T) : Option R := u_spec_l11Cone_crossed_4 nx hx z.1.2.1.1 z.1.2.2.1.1 z.1.2.2.2.1.1 z.2.1.1.1 z.2.1.1.2.1 z.2.1.1.2.2.1 z.2.1.1.2.2.2.1 z.2.1.1.2.2.2.2.1 z.2.1.1.2.2.2.2.2.1
theorem nat_spec_l11Cone_crossed_4 : Natural @t_spec_l11Cone_crossed_4 := fun R nx hx z => by
  show u_spec_l11Cone_crossed_4 nx hx z.1.2.1.1 z.1.2.2.1.1 z.1.2.2.2.1.1 z.2.1.1.1 z.2.1.1.2.1 z.2.1.1.2.2.1 z.2.1.1.2.2.2.1 z.2.1.1.2.2.2.2.1 z.2.1.1.2.2.2.2.2.1 = (u_spec_l11Cone_crossed_4 (fun y => some (.inl y)) (hIn x_spec_l11Cone_crossed_4 fun x => some (.inr x)) z.1.2.1.1 z.1.2.2.1.1 z.1.2.2.2.1.1 z.2.1.1.1 z.2.1.1.2.1 z.2.1.1.2.2.1 z.2.1.1.2.2.2.1 z.2.1.1.2.2.2.2.1 z.2.1.1.2.2.2.2.2.1).bind (goOn nx hx)
  unfold u_spec_l11Cone_crossed_4
  exact nat_cond (nat_bind fun _ => nat_bind fun _ => nat_cond (nat_bind fun _ => nat_bind fun _ => nat_cond (nat_bind fun _ => nat_cond (rfl) (nat_bind fun _ => nat_cond (rfl) (nat_bind fun _ => nat_bind fun _ => nat_cond (rfl) (nat_bind fun _ => nat_bind fun _ => nat_cond (rfl) (nat_bind fun _ => nat_cond (nat_bind fun _ => nat_cond (rfl) (nat_bind fun _ => nat_cond (nat_bind fun _ => nat_cond (rfl) (rfl)) (rfl))) (nat_bind fun _ => nat_cond (nat_bind fun _ => nat_cond (rfl) (rfl)) (rfl))))))) (nat_bind fun _ => nat_cond (rfl) (nat_bind fun _ => nat_bind fun _ => nat_cond (rfl) (nat_bind fun _ => nat_bind fun _ => nat_cond (rfl) (nat_bind fun _ => nat_cond (nat_bind fun _ => nat_cond (rfl) (nat_bind fun _ => nat_cond (nat_bind fun _ => nat_cond (rfl) (rfl)) (rfl))) (nat_bind fun _ => nat_cond (nat_bind fun _ => nat_cond (rfl) (rfl)) (rfl))))))) (nat_bind fun _ => nat_cond (rfl) (nat_bind fun _ => nat_bind fun _ => nat_cond (rfl) (nat_bind fun _ => nat_bind fun _ => nat_cond (rfl) (nat_bind fun _ => nat_cond (nat_bind fun _ => nat_cond (rfl) (nat_bind fun _ => nat_cond (nat_bind fun _ => nat_cond (rfl) (rfl)) (rfl))) (nat_bind fun _ => nat_cond (nat_bind fun _ => nat_cond (rfl) (rfl)) (rfl))))))) (rfl)
def w_spec_l11Cone_crossed_4 : s_spec_l11Cone_crossed_4.T → Option (exT x_spec_l11Cone_crossed_4) := wOf @t_spec_l11Cone_crossed_4
theorem wq_spec_l11Cone_crossed_4 x1 x5 x6 b0_0 b0_1 b0_2 b0_3 b0_4 b0_5 : w_spec_l11Cone_crossed_4 (m_spec_l11Cone_crossed_4 x1 x5 x6 b0_0 b0_1 b0_2 b0_3 b0_4 b0_5) = u_spec_l11Cone_crossed_4 w_spec_l11Cone_crossed_4 (hIn x_spec_l11Cone_crossed_4 some) x1 x5 x6 b0_0 b0_1 b0_2 b0_3 b0_4 b0_5 := wOf_eq nat_spec_l11Cone_crossed_4 _
def lh_spec_l11Cone_crossed_4 : LoopHint := ⟨[0, 1, 5, 6], [116], [4], []⟩
def h_spec_l11Cone_crossed : Hints Rv := ⟨fun k => match k with | 4 => lh_spec_l11Cone_crossed_4 | _ => ⟨[], [], [], []⟩, fun k => match k with | 4 => some (loopX s_spec_l11Cone_crossed_4 x_spec_l11Cone_crossed_4 w_spec_l11Cone_crossed_4) | _ => none⟩
theorem st_spec_l11Cone_crossed_4 (n : Nat) (z : s_spec_l11Cone_crossed_4.T) (k : Ex → Live → Option Rv) : loopN ⟨116, 117⟩ lh_spec_l11Cone_crossed_4 (den (tab C0 T_spec_l11Cone_crossed) ⟨116, 117⟩ h_spec_l11Cone_crossed 1 (loopOf Try.f88 3)) (n + 1) (s_spec_l11Cone_crossed_4.enc z) k =
    t_spec_l11Cone_crossed_4 (fun y => loopN ⟨116, 117⟩ lh_spec_l11Cone_crossed_4 (den (tab C0 T_spec_l11Cone_crossed) ⟨116, 117⟩ h_spec_l11Cone_crossed 1 (loopOf Try.f88 3)) n (s_spec_l11Cone_crossed_4.enc y) k) (hK k x_spec_l11Cone_crossed_4) z := by kernel_rfl
theorem hs_spec_l11Cone_crossed : HintsOk (tab C0 T_spec_l11Cone_crossed) ⟨116, 117⟩ h_spec_l11Cone_crossed 1 (loops (codeOf Try.f88)) := by
  have hl : loops (codeOf Try.f88) = [loopOf Try.f88 3] := by kernel_rfl
  rw [hl]
  exact HintsOk.cons (n := 4) (lh := lh_spec_l11Cone_crossed_4) (S := loopX s_spec_l11Cone_crossed_4 x_spec_l11Cone_crossed_4 w_spec_l11Cone_crossed_4) (by kernel_rfl) rfl rfl (loopX_ok nat_spec_l11Cone_crossed_4 st_spec_l11Cone_crossed_4)
    (HintsOk.nil)
def t_spec_l11Cone_crossed {R : Type} (kx : Bool → Option R) (a0 : (Int × ((List Int) × ((List Int) × ((List Int) × ((List Int) × (List Int))))))) (a1 : Int) : Option R :=
  Option.bind (g_spec_l11Cone_before a0 a1) fun y181 =>
  Option.bind (w_spec_l11Cone_crossed_4 (m_spec_l11Cone_crossed_4 a1 y181 (0 : Int) a0.1 a0.2.1 a0.2.2.1 a0.2.2.2.1 a0.2.2.2.2.1 a0.2.2.2.2.2)) (exC x_spec_l11Cone_crossed_4
  (fun e259 =>
   kx (e259.1.1.1 : Bool), fun _ =>
   kx Bool.false, ()))
def g_spec_l11Cone_crossed (a0 : (Int × ((List Int) × ((List Int) × ((List Int) × ((List Int) × (List Int))))))) (a1 : Int) : Option (Bool) := t_spec_l11Cone_crossed some a0 a1
theorem nat_spec_l11Cone_crossed {R} kx a0 a1 : @t_spec_l11Cone_crossed R kx a0 a1 = (g_spec_l11Cone_crossed a0 a1).bind kx := by
  unfold g_spec_l11Cone_crossed t_spec_l11Cone_crossed
  exact nat_bind fun _ => nat_exC ⟨fun _ => rfl, fun _ => rfl, trivial⟩
abbrev k_spec_l11Cone_crossed : Contract := .fx [.ptr (.pair (.int .i64) (.pair (.slice (.int .i64)) (.pair (.slice (.int .i64)) (.pair (.slice (.int .i64)) (.pair (.slice (.int .i64)) (.slice (.int .i64))))))), .val false (.int .i64)] (Bool) (fun z => g_spec_l11Cone_crossed z.1 z.2.1) (fun b => (.one ⟨false, [(.v (.bool b))]⟩, []))
theorem so_spec_l11Cone_crossed : Sound C0 88 k_spec_l11Cone_crossed :=
  Sound.fx (e := false) (t := T_spec_l11Cone_crossed) (.cons so_spec_l11Cone_before (.cons so_spec_l11Cone_between (.cons so_spec_l11Cone_right (.cons so_spec_l11Cone_outside (.nil))))) mixed Try.func88 (by kernel_rfl) (by kernel_rfl) h_spec_l11Cone_crossed 1 hs_spec_l11Cone_crossed (fun z => (by kernel_rfl : _ = t_spec_l11Cone_crossed (fun b => some (k_spec_l11Cone_crossed.enc b)) z.1 z.2.1).trans (nat_spec_l11Cone_crossed _ z.1 z.2.1))

/-! ### F89 (*spec.l11Cone).wrong -/
def t_spec_l11Cone_wrong {R : Type} (kx : Bool → Option R) (a0 : (Int × ((List Int) × ((List Int) × ((List Int) × ((List Int) × (List Int))))))) (a1 : Int) : Option R :=
  Option.bind (g_spec_l11Cone_before a0 a1) fun y265 =>
  cond ((Int.tmod a1 (2 : Int)) == (1 : Int))
  (Option.bind (idx a0.2.2.2.2.1 a1) fun y266 =>
   cond (y266 == (2 : Int))
   (Option.bind (g_spec_l11Cone_above a0 a1 y265) fun y267 =>
    cond y267
    (kx Bool.true)
    (Option.bind (idx a0.2.2.2.2.1 a1) fun y268 =>
     cond (y268 == (3 : Int))
     (Option.bind (g_spec_l11Cone_above a0 y265 a1) fun y269 =>
      kx y269)
     (kx Bool.false)))
   (Option.bind (idx a0.2.2.2.2.1 a1) fun y270 =>
    cond (y270 == (3 : Int))
    (Option.bind (g_spec_l11Cone_above a0 y265 a1) fun y271 =>
     kx y271)
    (kx Bool.false)))
  (Option.bind (idx a0.2.2.2.2.1 a1) fun y272 =>
   cond (y272 == (2 : Int))
   (Option.bind (g_spec_l11Cone_above a0 y265 a1) fun y273 =>
    cond y273
    (kx Bool.true)
    (Option.bind (idx a0.2.2.2.2.1 a1) fun y274 =>
     cond (y274 == (3 : Int))
     (Option.bind (g_spec_l11Cone_above a0 a1 y265) fun y275 =>
      kx y275)
     (kx Bool.false)))
   (Option.bind (idx a0.2.2.2.2.1 a1) fun y276 =>
    cond (y276 == (3 : Int))
    (Option.bind (g_spec_l11Cone_above a0 a1 y265) fun y277 =>
     kx y277)
    (kx Bool.false)))
def g_spec_l11Cone_wrong (a0 : (Int × ((List Int) × ((List Int) × ((List Int) × ((List Int) × (List Int))))))) (a1 : Int) : Option (Bool) := t_spec_l11Cone_wrong some a0 a1
theorem nat_spec_l11Cone_wrong {R} kx a0 a1 : @t_spec_l11Cone_wrong R kx a0 a1 = (g_spec_l11Cone_wrong a0 a1).bind kx := by
  unfold g_spec_l11Cone_wrong t_spec_l11Cone_wrong
  exact nat_bind fun _ => nat_cond (nat_bind fun _ => nat_cond (nat_bind fun _ => nat_cond (rfl) (nat_bind fun _ => nat_cond (nat_bind fun _ => rfl) (rfl))) (nat_bind fun _ => nat_cond (nat_bind fun _ => rfl) (rfl))) (nat_bind fun _ => nat_cond (nat_bind fun _ => nat_cond (rfl) (nat_bind fun _ => nat_cond (nat_bind fun _ => rfl) (rfl))) (nat_bind fun _ => nat_cond (nat_bind fun _ => rfl) (rfl)))
abbrev k_spec_l11Cone_wrong : Contract := .fx [.ptr (.pair (.int .i64) (.pair (.slice (.int .i64)) (.pair (.slice (.int .i64)) (.pair (.slice (.int .i64)) (.pair (.slice (.int .i64)) (.slice (.int .i64))))))), .val false (.int .i64)] (Bool) (fun z => g_spec_l11Cone_wrong z.1 z.2.1) (fun b => (.one ⟨false, [(.v (.bool b))]⟩, []))
theorem so_spec_l11Cone_wrong : Sound C0 89 k_spec_l11Cone_wrong :=
  Sound.fx (e := false) (.cons so_spec_l11Cone_before (.cons so_spec_l11Cone_above (.nil))) mixed Try.func89 (by kernel_rfl) (by kernel_rfl) noHints 1 noHints_ok (fun z => (by kernel_rfl : _ = t_spec_l11Cone_wrong (fun b => some (k_spec_l11Cone_wrong.enc b)) z.1 z.2.1).trans (nat_spec_l11Cone_wrong _ z.1 z.2.1))

/-! ### F90 (*spec.l11Cone).circle -/
def T_spec_l11Cone_circle : List (FuncId × Contract) := [(86, k_spec_l00Max), (85, k_spec_l00Min), (117, k_spec_l11Cone_above)]
abbrev s_spec_l11Cone_circle_3 : LS := ⟨[(false, [(.ptr 103 0)]), (false, [(.int .i64)]), (false, [(.int .i64)]), (false, [(.int .i64)])], [(true, [(.int .i64), (.sl (.int .i64)), (.sl (.int .i64)), (.sl (.int .i64)), (.sl (.int .i64)), (.sl (.int .i64))])], []⟩
abbrev e_spec_l11Cone_circle_3_0 : LS := ⟨[(false, [.bool])], [], []⟩
abbrev d_spec_l11Cone_circle_3_0 (v0 : Bool) := ((((v0, ()), ()), (), ()) : e_spec_l11Cone_circle_3_0.T)
abbrev e_spec_l11Cone_circle_3_1 : LS := ⟨[(false, [.undef])], [], []⟩
abbrev d_spec_l11Cone_circle_3_1 := (((((), ()), ()), (), ()) : e_spec_l11Cone_circle_3_1.T)
abbrev x_spec_l11Cone_circle_3 : List (Ex × LS) := [(.ret, e_spec_l11Cone_circle_3_0), (.exit 0, e_spec_l11Cone_circle_3_1)]
abbrev m_spec_l11Cone_circle_3 (x1 : Int) (x2 : Int) (x7 : Int) (b0_0 : Int) (b0_1 : List Int) (b0_2 : List Int) (b0_3 : List Int) (b0_4 : List Int) (b0_5 : List Int) := (((((), ()), (x1, ()), (x2, ()), (x7, ()), ()), ((b0_0, b0_1, b0_2, b0_3, b0_4, b0_5, ()), ()), ()) : s_spec_l11Cone_circle_3.T)
def u_spec_l11Cone_circle_3 {R : Type} (nx : s_spec_l11Cone_circle_3.T → Option R) (hx : exH R x_spec_l11Cone_circle_3) (x1 : Int) (x2 : Int) (x7 : Int) (b0_0 : Int) (b0_1 : List Int) (b0_2 : List Int) (b0_3 : List Int) (b0_4 : List Int) (b0_5 : List Int) : Option R :=
  cond (decide (x7 < b0_0))
  (Option.bind (idx b0_2 x1) fun y300 =>
   Option.bind (idx b0_2 x2) fun y301 =>
   Option.bind (idx b0_2 x7) fun y302 =>
   Option.bind (g_spec_l00Max y301 y302) fun y303 =>
   Option.bind (g_spec_l00Max y300 y303) fun y304 =>
   Option.bind (idx b0_3 x1) fun y305 =>
   Option.bind (idx b0_3 x2) fun y306 =>
   Option.bind (idx b0_3 x7) fun y307 =>
   Option.bind (g_spec_l00Min y306 y307) fun y308 =>
   Option.bind (g_spec_l00Min y305 y308) fun y309 =>
   cond (decide (y304 < y309))
   (Option.bind (g_spec_l11Cone_above (b0_0, (b0_1, (b0_2, (b0_3, (b0_4, b0_5))))) x1 x2) fun y310 =>
    cond y310
    (Option.bind (g_spec_l11Cone_above (b0_0, (b0_1, (b0_2, (b0_3, (b0_4, b0_5))))) x2 x7) fun y311 =>
     cond y311
     (Option.bind (g_spec_l11Cone_above (b0_0, (b0_1, (b0_2, (b0_3, (b0_4, b0_5))))) x7 x1) fun y312 =>
      cond y312
      (hx.1 (d_spec_l11Cone_circle_3_0 Bool.true))
      (Option.bind (g_spec_l11Cone_above (b0_0, (b0_1, (b0_2, (b0_3, (b0_4, b0_5))))) x2 x1) fun y313 =>
       cond y313
       (Option.bind (g_spec_l11Cone_above (b0_0, (b0_1, (b0_2, (b0_3, (b0_4, b0_5))))) x1 x7) fun y314 =>
        cond y314
        (Option.bind (g_spec_l11Cone_above (b0_0, (b0_1, (b0_2, (b0_3, (b0_4, b0_5))))) x7 x2) fun y315 =>
         cond y315
         (hx.1 (d_spec_l11Cone_circle_3_0 Bool.true))
         (nx (m_spec_l11Cone_circle_3 x1 x2 (IntKind.wrap IntKind.i64 (x7 + (1 : Int))) b0_0 b0_1 b0_2 b0_3 b0_4 b0_5)))
        (nx (m_spec_l11Cone_circle_3 x1 x2 (IntKind.wrap IntKind.i64 (x7 + (1 : Int))) b0_0 b0_1 b0_2 b0_3 b0_4 b0_5)))
       (nx (m_spec_l11Cone_circle_3 x1 x2 (IntKind.wrap IntKind.i64 (x7 + (1 : Int))) b0_0 b0_1 b0_2 b0_3 b0_4 b0_5))))
     (Option.bind (g_spec_l11Cone_above (b0_0, (b0_1, (b0_2, (b0_3, (b0_4, b0_5))))) x2 x1) fun y316 =>
      cond y316
      (Option.bind (g_spec_l11Cone_above (b0_0, (b0_1, (b0_2, (b0_3, (b0_4, b0_5))))) x1 x7) fun y317 =>
       cond y317
       (Option.bind (g_spec_l11Cone_above (b0_0, (b0_1, (b0_2, (b0_3, (b0_4, b0_5))))) x7 x2) fun y318 =>
        cond y318
        (hx.1 (d_spec_l11Cone_circle_3_0 Bool.true))
        (nx (m_spec_l11Cone_circle_3 x1 x2 (IntKind.wrap IntKind.i64 (x7 + (1 : Int))) b0_0 b0_1 b0_2 b0_3 b0_4 b0_5)))
       (nx (m_spec_l11Cone_circle_3 x1 x2 (IntKind.wrap IntKind.i64 (x7 + (1 : Int))) b0_0 b0_1 b0_2 b0_3 b0_4 b0_5)))
      (nx (m_spec_l11Cone_circle_3 x1 x2 (IntKind.wrap IntKind.i64 (x7 + (1 : Int))) b0_0 b0_1 b0_2 b0_3 b0_4 b0_5))))
    (Option.bind (g_spec_l11Cone_above (b0_0, (b0_1, (b0_2, (b0_3, (b0_4, b0_5))))) x2 x1) fun y319 =>
     cond y319
     (Option.bind (g_spec_l11Cone_above (b0_0, (b0_1, (b0_2, (b0_3, (b0_4, b0_5))))) x1 x7) fun y320 =>
      cond y320
      (Option.bind (g_spec_l11Cone_above (b0_0, (b0_1, (b0_2, (b0_3, (b0_4, b0_5))))) x7 x2) fun y321 =>
       cond y321
       (hx.1 (d_spec_l11Cone_circle_3_0 Bool.true))
       (nx (m_spec_l11Cone_circle_3 x1 x2 (IntKind.wrap IntKind.i64 (x7 + (1 : Int))) b0_0 b0_1 b0_2 b0_3 b0_4 b0_5)))
      (nx (m_spec_l11Cone_circle_3 x1 x2 (IntKind.wrap IntKind.i64 (x7 + (1 : Int))) b0_0 b0_1 b0_2 b0_3 b0_4 b0_5)))
     (nx (m_spec_l11Cone_circle_3 x1 x2 (IntKind.wrap IntKind.i64 (x7 + (1 : Int))) b0_0 b0_1 b0_2 b0_3 b0_4 b0_5))))
   (nx (m_spec_l11Cone_circle_3 x1 x2 (IntKind.wrap IntKind.i64 (x7 + (1 : Int))) b0_0 b0_1 b0_2 b0_3 b0_4 b0_5)))
  (hx.2.1 (d_spec_l11Cone_circle_3_1))
def t_spec_l11Cone_circle_3 {R : Type} (nx : s_spec_l11Cone_circle_3.T → Option R) (hx : exH R x_spec_l11Cone_circle_3) (z : s_spec_l11Cone_circle_3.T) : Option R := u_spec_l11Cone_circle_3 nx hx z.1.2.1.1 z.1.2.2.1.1 z.1.2.2.2.1.1 z.2.1.1.1 z.2.1.1.2.1 z.2.1.1.2.2.1 z.2.1.1.2.2.2.1 z.2.1.1.2.2.2.2.1 z.2.1.1.2.2.2.2.2.1
theorem nat_spec_l11Cone_circle_3 : Natural @t_spec_l11Cone_circle_3 := fun R nx hx z => by
  show u_spec_l11Cone_circle_3 nx hx z.1.2.1.1 z.1.2.2.1.1 z.1.2.2.2.1.1 z.2.1.1.1 z.2.1.1.2.1 z.2.1.1.2.2.1 z.2.1.1.2.2.2.1 z.2.1.1.2.2.2.2.1 z.2.1.1.2.2.2.2.2.1 = (u_spec_l11Cone_circle_3 (fun y => some (.inl y)) (hIn x_spec_l11Cone_circle_3 fun x => some (.inr x)) z.1.2.1.1 z.1.2.2.1.1 z.1.2.2.2.1.1 z.2.1.1.1 z.2.1.1.2.1 z.2.1.1.2.2.1 z.2.1.1.2.2.2.1 z.2.1.1.2.2.2.2.1 z.2.1.1.2.2.2.2.2.1).bind (goOn nx hx)
  unfold u_spec_l11Cone_circle_3
  exact nat_cond (nat_bind fun _ => nat_bind fun _ => nat_bind fun _ => nat_bind fun _ => nat_bind fun _ => nat_bind fun _ => nat_bind fun _ => nat_bind fun _ => nat_bind fun _ => nat_bind fun _ => nat_cond (nat_bind fun _ => nat_cond (nat_bind fun _ => nat_cond (nat_bind fun _ => nat_cond (rfl) (nat_bind fun _ => nat_cond (nat_bind fun _ => nat_cond (nat_bind fun _ => nat_cond (rfl) (rfl)) (rfl)) (rfl))) (nat_bind fun _ => nat_cond (nat_bind fun _ => nat_cond (nat_bind fun _ => nat_cond (rfl) (rfl)) (rfl)) (rfl))) (nat_bind fun _ => nat_cond (nat_bind fun _ => nat_cond (nat_bind fun _ => nat_cond (rfl) (rfl)) (rfl)) (rfl))) (rfl)) (rfl)
def w_spec_l11Cone_circle_3 : s_spec_l11Cone_circle_3.T → Option (exT x_spec_l11Cone_circle_3) := wOf @t_spec_l11Cone_circle_3
theorem wq_spec_l11Cone_circle_3 x1 x2 x7 b0_0 b0_1 b0_2 b0_3 b0_4 b0_5 : w_spec_l11Cone_circle_3 (m_spec_l11Cone_circle_3 x1 x2 x7 b0_0 b0_1 b0_2 b0_3 b0_4 b0_5) = u_spec_l11Cone_circle_3 w_spec_l11Cone_circle_3 (hIn x_spec_l11Cone_circle_3 some) x1 x2 x7 b0_0 b0_1 b0_2 b0_3 b0_4 b0_5 := wOf_eq nat_spec_l11Cone_circle_3 _
def lh_spec_l11Cone_circle_3 : LoopHint := ⟨[0, 1, 2, 7], [103], [6], []⟩
def h_spec_l11Cone_circle : Hints Rv := ⟨fun k => match k with | 3 => lh_spec_l11Cone_circle_3 | _ => ⟨[], [], [], []⟩, fun k => match k with | 3 => some (loopX s_spec_l11Cone_circle_3 x_spec_l11Cone_circle_3 w_spec_l11Cone_circle_3) | _ => none⟩
theorem st_spec_l11Cone_circle_3 (n : Nat) (z : s_spec_l11Cone_circle_3.T) (k : Ex → Live → Option Rv) : loopN ⟨103, 104⟩ lh_spec_l11Cone_circle_3 (den (tab C0 T_spec_l11Cone_circle) ⟨103, 104⟩ h_spec_l11Cone_circle 1 (loopOf Try.f90 2)) (n + 1) (s_spec_l11Cone_circle_3.enc z) k =
    t_spec_l11Cone_circle_3 (fun y => loopN ⟨103, 104⟩ lh_spec_l11Cone_circle_3 (den (tab C0 T_spec_l11Cone_circle) ⟨103, 104⟩ h_spec_l11Cone_circle 1 (loopOf Try.f90 2)) n (s_spec_l11Cone_circle_3.enc y) k) (hK k x_spec_l11Cone_circle_3) z := by kernel_rfl
theorem hs_spec_l11Cone_circle : HintsOk (tab C0 T_spec_l11Cone_circle) ⟨103, 104⟩ h_spec_l11Cone_circle 1 (loops (codeOf Try.f90)) := by
  have hl : loops (codeOf Try.f90) = [loopOf Try.f90 2] := by kernel_rfl
  rw [hl]
  exact HintsOk.cons (n := 3) (lh := lh_spec_l11Cone_circle_3) (S := loopX s_spec_l11Cone_circle_3 x_spec_l11Cone_circle_3 w_spec_l11Cone_circle_3) (by kernel_rfl) rfl rfl (loopX_ok nat_spec_l11Cone_circle_3 st_spec_l11Cone_circle_3)
    (HintsOk.nil)
def t_spec_l11Cone_circle {R : Type} (kx : Bool → Option R) (a0 : (Int × ((List Int) × ((List Int) × ((List Int) × ((List Int) × (List Int))))))) (a1 : Int) (a2 : Int) : Option R :=
  Option.bind (w_spec_l11Cone_circle_3 (m_spec_l11Cone_circle_3 a1 a2 (0 : Int) a0.1 a0.2.1 a0.2.2.1 a0.2.2.2.1 a0.2.2.2.2.1 a0.2.2.2.2.2)) (exC x_spec_l11Cone_circle_3
  (fun e322 =>
   kx (e322.1.1.1 : Bool), fun _ =>
   kx Bool.false, ()))
def g_spec_l11Cone_circle (a0 : (Int × ((List Int) × ((List Int) × ((List Int) × ((List Int) × (List Int))))))) (a1 : Int) (a2 : Int) : Option (Bool) := t_spec_l11Cone_circle some a0 a1 a2
theorem nat_spec_l11Cone_circle {R} kx a0 a1 a2 : @t_spec_l11Cone_circle R kx a0 a1 a2 = (g_spec_l11Cone_circle a0 a1 a2).bind kx := by
  unfold g_spec_l11Cone_circle t_spec_l11Cone_circle
  exact nat_exC ⟨fun _ => rfl, fun _ => rfl, trivial⟩
abbrev k_spec_l11Cone_circle : Contract := .fx [.ptr (.pair (.int .i64) (.pair (.slice (.int .i64)) (.pair (.slice (.int .i64)) (.pair (.slice (.int .i64)) (.pair (.slice (.int .i64)) (.slice (.int .i64))))))), .val false (.int .i64), .val false (.int .i64)] (Bool) (fun z => g_spec_l11Cone_circle z.1 z.2.1 z.2.2.1) (fun b => (.one ⟨false, [(.v (.bool b))]⟩, []))
theorem so_spec_l11Cone_circle : Sound C0 90 k_spec_l11Cone_circle :=
  Sound.fx (e := false) (t := T_spec_l11Cone_circle) (.cons so_spec_l00Max (.cons so_spec_l00Min (.cons so_spec_l11Cone_above (.nil)))) mixed Try.func90 (by kernel_rfl) (by kernel_rfl) h_spec_l11Cone_circle 1 hs_spec_l11Cone_circle (fun z => (by kernel_rfl : _ = t_spec_l11Cone_circle (fun b => some (k_spec_l11Cone_circle.enc b)) z.1 z.2.1 z.2.2.1).trans (nat_spec_l11Cone_circle _ z.1 z.2.1 z.2.2.1))

/-! ### F55 (*spec.l11Cone).good -/
def T_spec_l11Cone_good : List (FuncId × Contract) := [(88, k_spec_l11Cone_crossed), (89, k_spec_l11Cone_wrong), (87, k_spec_l11Cone_overlap), (90, k_spec_l11Cone_circle)]
abbrev s_spec_l11Cone_good_8 : LS := ⟨[(false, [(.ptr 36 0)]), (false, [(.int .i64)]), (false, [(.int .i64)])], [(true, [(.int .i64), (.sl (.int .i64)), (.sl (.int .i64)), (.sl (.int .i64)), (.sl (.int .i64)), (.sl (.int .i64))])], []⟩
abbrev e_spec_l11Cone_good_8_0 : LS := ⟨[(false, [(.ptr 36 0)]), (false, [.bool]), (false, [(.int .i64)])], [(true, [(.int .i64), (.sl (.int .i64)), (.sl (.int .i64)), (.sl (.int .i64)), (.sl (.int .i64)), (.sl (.int .i64))])], []⟩
abbrev d_spec_l11Cone_good_8_0 (v0 : Bool) (v1 : Int) (v2 : Int) (v3 : List Int) (v4 : List Int) (v5 : List Int) (v6 : List Int) (v7 : List Int) := (((((), ()), (v0, ()), (v1, ()), ()), ((v2, v3, v4, v5, v6, v7, ()), ()), ()) : e_spec_l11Cone_good_8_0.T)
abbrev e_spec_l11Cone_good_8_1 : LS := ⟨[(false, [(.ptr 36 0)]), (false, [.undef]), (false, [(.int .i64)])], [(true, [(.int .i64), (.sl (.int .i64)), (.sl (.int .i64)), (.sl (.int .i64)), (.sl (.int .i64)), (.sl (.int .i64))])], []⟩
abbrev d_spec_l11Cone_good_8_1 (v0 : Int) (v1 : Int) (v2 : List Int) (v3 : List Int) (v4 : List Int) (v5 : List Int) (v6 : List Int) := (((((), ()), ((), ()), (v0, ()), ()), ((v1, v2, v3, v4, v5, v6, ()), ()), ()) : e_spec_l11Cone_good_8_1.T)
abbrev x_spec_l11Cone_good_8 : List (Ex × LS) := [(.ret, e_spec_l11Cone_good_8_0), (.exit 2, e_spec_l11Cone_good_8_1)]
abbrev m_spec_l11Cone_good_8 (x3 : Int) (x4 : Int) (b0_0 : Int) (b0_1 : List Int) (b0_2 : List Int) (b0_3 : List Int) (b0_4 : List Int) (b0_5 : List Int) := (((((), ()), (x3, ()), (x4, ()), ()), ((b0_0, b0_1, b0_2, b0_3, b0_4, b0_5, ()), ()), ()) : s_spec_l11Cone_good_8.T)
def u_spec_l11Cone_good_8 {R : Type} (nx : s_spec_l11Cone_good_8.T → Option R) (hx : exH R x_spec_l11Cone_good_8) (x3 : Int) (x4 : Int) (b0_0 : Int) (b0_1 : List Int) (b0_2 : List Int) (b0_3 : List Int) (b0_4 : List Int) (b0_5 : List Int) : Option R :=
  cond (decide (x4 < x3))
  (Option.bind (g_spec_l11Cone_overlap (b0_0, (b0_1, (b0_2, (b0_3, (b0_4, b0_5))))) x3 x4) fun y287 =>
   cond y287
   (Option.bind (g_spec_l11Cone_circle (b0_0, (b0_1, (b0_2, (b0_3, (b0_4, b0_5))))) x3 x4) fun y325 =>
    cond y325
    (hx.1 (d_spec_l11Cone_good_8_0 Bool.false x3 b0_0 b0_1 b0_2 b0_3 b0_4 b0_5))
    (nx (m_spec_l11Cone_good_8 x3 (IntKind.wrap IntKind.i64 (x4 + (1 : Int))) b0_0 b0_1 b0_2 b0_3 b0_4 b0_5)))
   (nx (m_spec_l11Cone_good_8 x3 (IntKind.wrap IntKind.i64 (x4 + (1 : Int))) b0_0 b0_1 b0_2 b0_3 b0_4 b0_5)))
  (hx.2.1 (d_spec_l11Cone_good_8_1 x3 b0_0 b0_1 b0_2 b0_3 b0_4 b0_5))
def t_spec_l11Cone_good_8 {R : Type} (nx : s_spec_l11Cone_good_8.T → Option R) (hx : exH R x_spec_l11Cone_good_8) (z : s_spec_l11Cone_good_8.T) : Option R := u_spec_l11Cone_good_8 nx hx z.1.2.1.1 z.1.2.2.1.1 z.2.1.1.1 z.2.1.1.2.1 z.2.1.1.2.2.1 z.2.1.1.2.2.2.1 z.2.1.1.2.2.2.2.1 z.2.1.1.2.2.2.2.2.1
theorem nat_spec_l11Cone_good_8 : Natural @t_spec_l11Cone_good_8 := fun R nx hx z => by
  show u_spec_l11Cone_good_8 nx hx z.1.2.1.1 z.1.2.2.1.1 z.2.1.1.1 z.2.1.1.2.1 z.2.1.1.2.2.1 z.2.1.1.2.2.2.1 z.2.1.1.2.2.2.2.1 z.2.1.1.2.2.2.2.2.1 = (u_spec_l11Cone_good_8 (fun y => some (.inl y)) (hIn x_spec_l11Cone_good_8 fun x => some (.inr x)) z.1.2.1.1 z.1.2.2.1.1 z.2.1.1.1 z.2.1.1.2.1 z.2.1.1.2.2.1 z.2.1.1.2.2.2.1 z.2.1.1.2.2.2.2.1 z.2.1.1.2.2.2.2.2.1).bind (goOn nx hx)
  unfold u_spec_l11Cone_good_8
  exact nat_cond (nat_bind fun _ => nat_cond (nat_bind fun _ => nat_cond (rfl) (rfl)) (rfl)) (rfl)
def w_spec_l11Cone_good_8 : s_spec_l11Cone_good_8.T → Option (exT x_spec_l11Cone_good_8) := wOf @t_spec_l11Cone_good_8
theorem wq_spec_l11Cone_good_8 x3 x4 b0_0 b0_1 b0_2 b0_3 b0_4 b0_5 : w_spec_l11Cone_good_8 (m_spec_l11Cone_good_8 x3 x4 b0_0 b0_1 b0_2 b0_3 b0_4 b0_5) = u_spec_l11Cone_good_8 w_spec_l11Cone_good_8 (hIn x_spec_l11Cone_good_8 some) x3 x4 b0_0 b0_1 b0_2 b0_3 b0_4 b0_5 := wOf_eq nat_spec_l11Cone_good_8 _
def lh_spec_l11Cone_good_8 : LoopHint := ⟨[0, 3, 4], [36], [0, 2, 3], [36]⟩
abbrev s_spec_l11Cone_good_3 : LS := ⟨[(false, [(.ptr 36 0)]), (false, [(.int .i64)])], [(true, [(.int .i64), (.sl (.int .i64)), (.sl (.int .i64)), (.sl (.int .i64)), (.sl (.int .i64)), (.sl (.int .i64))])], []⟩
abbrev e_spec_l11Cone_good_3_0 : LS := ⟨[(false, [.bool])], [], []⟩
abbrev d_spec_l11Cone_good_3_0 (v0 : Bool) := ((((v0, ()), ()), (), ()) : e_spec_l11Cone_good_3_0.T)
abbrev e_spec_l11Cone_good_3_1 : LS := ⟨[(false, [.undef])], [], []⟩
abbrev d_spec_l11Cone_good_3_1 := (((((), ()), ()), (), ()) : e_spec_l11Cone_good_3_1.T)
abbrev x_spec_l11Cone_good_3 : List (Ex × LS) := [(.ret, e_spec_l11Cone_good_3_0), (.exit 0, e_spec_l11Cone_good_3_1)]
abbrev m_spec_l11Cone_good_3 (x3 : Int) (b0_0 : Int) (b0_1 : List Int) (b0_2 : List Int) (b0_3 : List Int) (b0_4 : List Int) (b0_5 : List Int) := (((((), ()), (x3, ()), ()), ((b0_0, b0_1, b0_2, b0_3, b0_4, b0_5, ()), ()), ()) : s_spec_l11Cone_good_3.T)
def u_spec_l11Cone_good_3 {R : Type} (nx : s_spec_l11Cone_good_3.T → Option R) (hx : exH R x_spec_l11Cone_good_3) (x3 : Int) (b0_0 : Int) (b0_1 : List Int) (b0_2 : List Int) (b0_3 : List Int) (b0_4 : List Int) (b0_5 : List Int) : Option R :=
  cond (decide (x3 < b0_0))
  (Option.bind (g_spec_l11Cone_crossed (b0_0, (b0_1, (b0_2, (b0_3, (b0_4, b0_5))))) x3) fun y262 =>
   cond y262
   (hx.1 (d_spec_l11Cone_good_3_0 Bool.false))
   (Option.bind (g_spec_l11Cone_wrong (b0_0, (b0_1, (b0_2, (b0_3, (b0_4, b0_5))))) x3) fun y278 =>
    cond y278
    (hx.1 (d_spec_l11Cone_good_3_0 Bool.false))
    (Option.bind (w_spec_l11Cone_good_8 (m_spec_l11Cone_good_8 x3 (0 : Int) b0_0 b0_1 b0_2 b0_3 b0_4 b0_5)) (exC x_spec_l11Cone_good_8
     (fun e326 =>
      hx.1 (d_spec_l11Cone_good_3_0 (e326.1.2.1.1 : Bool)), fun e335 =>
      nx (m_spec_l11Cone_good_3 (IntKind.wrap IntKind.i64 ((e335.1.2.2.1.1 : Int) + (1 : Int))) (e335.2.1.1.1 : Int) (e335.2.1.1.2.1 : List Int) (e335.2.1.1.2.2.1 : List Int) (e335.2.1.1.2.2.2.1 : List Int) (e335.2.1.1.2.2.2.2.1 : List Int) (e335.2.1.1.2.2.2.2.2.1 : List Int)), ())))))
  (hx.2.1 (d_spec_l11Cone_good_3_1))
def t_spec_l11Cone_good_3 {R : Type} (nx : s_spec_l11Cone_good_3.T → Option R) (hx : exH R x_spec_l11Cone_good_3) (z : s_spec_l11Cone_good_3.T) : Option R := u_spec_l11Cone_good_3 nx hx z.1.2.1.1 z.2.1.1.1 z.2.1.1.2.1 z.2.1.1.2.2.1 z.2.1.1.2.2.2.1 z.2.1.1.2.2.2.2.1 z.2.1.1.2.2.2.2.2.1
theorem nat_spec_l11Cone_good_3 : Natural @t_spec_l11Cone_good_3 := fun R nx hx z => by
  show u_spec_l11Cone_good_3 nx hx z.1.2.1.1 z.2.1.1.1 z.2.1.1.2.1 z.2.1.1.2.2.1 z.2.1.1.2.2.2.1 z.2.1.1.2.2.2.2.1 z.2.1.1.2.2.2.2.2.1 = (u_spec_l11Cone_good_3 (fun y => some (.inl y)) (hIn x_spec_l11Cone_good_3 fun x => some (.inr x)) z.1.2.1.1 z.2.1.1.1 z.2.1.1.2.1 z.2.1.1.2.2.1 z.2.1.1.2.2.2.1 z.2.1.1.2.2.2.2.1 z.2.1.1.2.2.2.2.2.1).bind (goOn nx hx)
  unfold u_spec_l11Cone_good_3
  exact nat_cond (nat_bind fun _ => nat_cond (rfl) (nat_bind fun _ => nat_cond (rfl) (nat_exC ⟨fun _ => rfl, fun _ => rfl, trivial⟩))) (rfl)
def w_spec_l11Cone_good_3 : s_spec_l11Cone_good_3.T → Option (exT x_spec_l11Cone_good_3) := wOf @t_spec_l11Cone_good_3
theorem wq_spec_l11Cone_good_3 x3 b0_0 b0_1 b0_2 b0_3 b0_4 b0_5 : w_spec_l11Cone_good_3 (m_spec_l11Cone_good_3 x3 b0_0 b0_1 b0_2 b0_3 b0_4 b0_5) = u_spec_l11Cone_good_3 w_spec_l11Cone_good_3 (hIn x_spec_l11Cone_good_3 some) x3 b0_0 b0_1 b0_2 b0_3 b0_4 b0_5 := wOf_eq nat_spec_l11Cone_good_3 _
def lh_spec_l11Cone_good_3 : LoopHint := ⟨[0, 3], [36], [2], []⟩
def h_spec_l11Cone_good : Hints Rv := ⟨fun k => match k with | 8 => lh_spec_l11Cone_good_8 | 3 => lh_spec_l11Cone_good_3 | _ => ⟨[], [], [], []⟩, fun k => match k with | 8 => some (loopX s_spec_l11Cone_good_8 x_spec_l11Cone_good_8 w_spec_l11Cone_good_8) | 3 => some (loopX s_spec_l11Cone_good_3 x_spec_l11Cone_good_3 w_spec_l11Cone_good_3) | _ => none⟩
theorem st_spec_l11Cone_good_8 (n : Nat) (z : s_spec_l11Cone_good_8.T) (k : Ex → Live → Option Rv) : loopN ⟨36, 37⟩ lh_spec_l11Cone_good_8 (den (tab C0 T_spec_l11Cone_good) ⟨36, 37⟩ h_spec_l11Cone_good 1 (loopOf Try.f55 7)) (n + 1) (s_spec_l11Cone_good_8.enc z) k =
    t_spec_l11Cone_good_8 (fun y => loopN ⟨36, 37⟩ lh_spec_l11Cone_good_8 (den (tab C0 T_spec_l11Cone_good) ⟨36, 37⟩ h_spec_l11Cone_good 1 (loopOf Try.f55 7)) n (s_spec_l11Cone_good_8.enc y) k) (hK k x_spec_l11Cone_good_8) z := by kernel_rfl
theorem st_spec_l11Cone_good_3 (n : Nat) (z : s_spec_l11Cone_good_3.T) (k : Ex → Live → Option Rv) : loopN ⟨36, 37⟩ lh_spec_l11Cone_good_3 (den (tab C0 T_spec_l11Cone_good) ⟨36, 37⟩ h_spec_l11Cone_good 1 (loopOf Try.f55 2)) (n + 1) (s_spec_l11Cone_good_3.enc z) k =
    t_spec_l11Cone_good_3 (fun y => loopN ⟨36, 37⟩ lh_spec_l11Cone_good_3 (den (tab C0 T_spec_l11Cone_good) ⟨36, 37⟩ h_spec_l11Cone_good 1 (loopOf Try.f55 2)) n (s_spec_l11Cone_good_3.enc y) k) (hK k x_spec_l11Cone_good_3) z := by kernel_rfl
theorem hs_spec_l11Cone_good : HintsOk (tab C0 T_spec_l11Cone_good) ⟨36, 37⟩ h_spec_l11Cone_good 1 (loops (codeOf Try.f55)) := by
  have hl : loops (codeOf Try.f55) = [loopOf Try.f55 2, loopOf Try.f55 7] := by kernel_rfl
  rw [hl]
  exact HintsOk.cons (n := 3) (lh := lh_spec_l11Cone_good_3) (S := loopX s_spec_l11Cone_good_3 x_spec_l11Cone_good_3 w_spec_l11Cone_good_3) (by kernel_rfl) rfl rfl (loopX_ok nat_spec_l11Cone_good_3 st_spec_l11Cone_good_3)
    (HintsOk.cons (n := 8) (lh := lh_spec_l11Cone_good_8) (S := loopX s_spec_l11Cone_good_8 x_spec_l11Cone_good_8 w_spec_l11Cone_good_8) (by kernel_rfl) rfl rfl (loopX_ok nat_spec_l11Cone_good_8 st_spec_l11Cone_good_8)
    (HintsOk.nil))
def t_spec_l11Cone_good {R : Type} (kx : Bool → Option R) (a0 : (Int × ((List Int) × ((List Int) × ((List Int) × ((List Int) × (List Int))))))) : Option R :=
  Option.bind (w_spec_l11Cone_good_3 (m_spec_l11Cone_good_3 (0 : Int) a0.1 a0.2.1 a0.2.2.1 a0.2.2.2.1 a0.2.2.2.2.1 a0.2.2.2.2.2)) (exC x_spec_l11Cone_good_3
  (fun e343 =>
   kx (e343.1.1.1 : Bool), fun _ =>
   kx Bool.true, ()))
def g_spec_l11Cone_good (a0 : (Int × ((List Int) × ((List Int) × ((List Int) × ((List Int) × (List Int))))))) : Option (Bool) := t_spec_l11Cone_good some a0
theorem nat_spec_l11Cone_good {R} kx a0 : @t_spec_l11Cone_good R kx a0 = (g_spec_l11Cone_good a0).bind kx := by
  unfold g_spec_l11Cone_good t_spec_l11Cone_good
  exact nat_exC ⟨fun _ => rfl, fun _ => rfl, trivial⟩
abbrev k_spec_l11Cone_good : Contract := .fx [.ptr (.pair (.int .i64) (.pair (.slice (.int .i64)) (.pair (.slice (.int .i64)) (.pair (.slice (.int .i64)) (.pair (.slice (.int .i64)) (.slice (.int .i64)))))))] (Bool) (fun z => g_spec_l11Cone_good z.1) (fun b => (.one ⟨false, [(.v (.bool b))]⟩, []))
theorem so_spec_l11Cone_good : Sound C0 55 k_spec_l11Cone_good :=
  Sound.fx (e := false) (t := T_spec_l11Cone_good) (.cons so_spec_l11Cone_crossed (.cons so_spec_l11Cone_wrong (.cons so_spec_l11Cone_overlap (.cons so_spec_l11Cone_circle (.nil))))) mixed Try.func55 (by kernel_rfl) (by kernel_rfl) h_spec_l11Cone_good 1 hs_spec_l11Cone_good (fun z => (by kernel_rfl : _ = t_spec_l11Cone_good (fun b => some (k_spec_l11Cone_good.enc b)) z.1).trans (nat_spec_l11Cone_good _ z.1))

/-! ### F25 spec.GoodSectorOrder -/
def t_spec_GoodSectorOrder {R : Type} (kx : Bool → Option R) (a0 : (List Int)) (a1 : (List Int)) (a2 : (List Int)) : Option R :=
  Option.bind (g_spec_l11Ok a0) fun y43 =>
  cond (!y43)
  (kx Bool.false)
  (Option.bind (g_spec_l11Kinds a0 a1 Bool.true) fun y59 =>
   cond (!y59)
   (kx Bool.false)
   (Option.bind (g_spec_l11New a0 a1) fun y118 =>
    Option.bind (g_spec_l11Form y118 a2) fun y166 =>
    cond (!y166)
    (kx Bool.false)
    (Option.bind (g_spec_l00Own a2) fun y168 =>
     Option.bind (g_spec_l11Cone_good (y118.1, (y118.2.1, (y118.2.2.1, (y118.2.2.2.1, (y118.2.2.2.2.1, y168)))))) fun y346 =>
     kx y346)))
def g_spec_GoodSectorOrder (a0 : (List Int)) (a1 : (List Int)) (a2 : (List Int)) : Option (Bool) := t_spec_GoodSectorOrder some a0 a1 a2
theorem nat_spec_GoodSectorOrder {R} kx a0 a1 a2 : @t_spec_GoodSectorOrder R kx a0 a1 a2 = (g_spec_GoodSectorOrder a0 a1 a2).bind kx := by
  unfold g_spec_GoodSectorOrder t_spec_GoodSectorOrder
  exact nat_bind fun _ => nat_cond (rfl) (nat_bind fun _ => nat_cond (rfl) (nat_bind fun _ => nat_bind fun _ => nat_cond (rfl) (nat_bind fun _ => nat_bind fun _ => rfl)))
abbrev k_spec_GoodSectorOrder : Contract := .fx [.val false (.slice (.int .i64)), .val false (.slice (.int .i64)), .val false (.slice (.int .i64))] (Bool) (fun z => g_spec_GoodSectorOrder z.1 z.2.1 z.2.2.1) (fun b => (.one ⟨false, [(.v (.bool b))]⟩, []))
theorem so_spec_GoodSectorOrder : Sound C0 25 k_spec_GoodSectorOrder :=
  Sound.fx (e := false) (.cons so_spec_l11Ok (.cons so_spec_l11Kinds (.cons so_spec_l11New (.cons so_spec_l11Form (.cons so_spec_l00Own (.cons so_spec_l11Cone_good (.nil))))))) mixed Try.func25 (by kernel_rfl) (by kernel_rfl) noHints 1 noHints_ok (fun z => (by kernel_rfl : _ = t_spec_GoodSectorOrder (fun b => some (k_spec_GoodSectorOrder.enc b)) z.1 z.2.1 z.2.2.1).trans (nat_spec_GoodSectorOrder _ z.1 z.2.1 z.2.2.1))

/-! ### F29 spec.KindsOfOrder -/
def T_spec_KindsOfOrder : List (FuncId × Contract) := [(59, k_spec_l11Open), (25, k_spec_GoodSectorOrder)]
abbrev s_spec_KindsOfOrder_7 : LS := ⟨[(false, [(.sl (.int .i64))]), (false, [(.int .i64)]), (false, [(.own (.int .i64))]), (false, [(.int .i64)])], [], []⟩
abbrev e_spec_KindsOfOrder_7_0 : LS := ⟨[(false, [(.own (.int .i64))])], [], []⟩
abbrev d_spec_KindsOfOrder_7_0 (v0 : List Int) := ((((v0, ()), ()), (), ()) : e_spec_KindsOfOrder_7_0.T)
abbrev x_spec_KindsOfOrder_7 : List (Ex × LS) := [(.exit 0, e_spec_KindsOfOrder_7_0)]
abbrev m_spec_KindsOfOrder_7 (x1 : List Int) (x6 : Int) (x7 : List Int) (x8 : Int) := ((((x1, ()), (x6, ()), (x7, ()), (x8, ()), ()), (), ()) : s_spec_KindsOfOrder_7.T)
def u_spec_KindsOfOrder_7 {R : Type} (nx : s_spec_KindsOfOrder_7.T → Option R) (hx : exH R x_spec_KindsOfOrder_7) (x1 : List Int) (x6 : Int) (x7 : List Int) (x8 : Int) : Option R :=
  cond (decide (x8 < x6))
  (cond (decide (x6 = (0 : Int)))
   (none)
   (Option.bind (idx x1 (IntKind.wrap IntKind.i64 ((IntKind.wrap IntKind.i64 (x8 * x6)) + (Int.tmod (IntKind.wrap IntKind.i64 ((IntKind.wrap IntKind.i64 (x8 + x6)) - (1 : Int))) x6)))) fun y352 =>
    cond ((Int.tmod x8 (2 : Int)) == (1 : Int))
    (cond ((IntKind.wrap IntKind.i64 ((0 : Int) - y352)) == (1 : Int))
     (cond (decide ((((List.length x7) + (List.length [(2 : Int)])) * 8) ≤ 70368744177664))
      (cond (decide (((List.length x7) + (List.length [(2 : Int)])) ≤ 70368744177664))
       (nx (m_spec_KindsOfOrder_7 x1 x6 (x7 ++ [(2 : Int)]) (IntKind.wrap IntKind.i64 (x8 + (1 : Int)))))
       (none))
      (none))
     (cond (decide ((((List.length x7) + (List.length [(3 : Int)])) * 8) ≤ 70368744177664))
      (cond (decide (((List.length x7) + (List.length [(3 : Int)])) ≤ 70368744177664))
       (nx (m_spec_KindsOfOrder_7 x1 x6 (x7 ++ [(3 : Int)]) (IntKind.wrap IntKind.i64 (x8 + (1 : Int)))))
       (none))
      (none)))
    (cond (y352 == (1 : Int))
     (cond (decide ((((List.length x7) + (List.length [(2 : Int)])) * 8) ≤ 70368744177664))
      (cond (decide (((List.length x7) + (List.length [(2 : Int)])) ≤ 70368744177664))
       (nx (m_spec_KindsOfOrder_7 x1 x6 (x7 ++ [(2 : Int)]) (IntKind.wrap IntKind.i64 (x8 + (1 : Int)))))
       (none))
      (none))
     (cond (decide ((((List.length x7) + (List.length [(3 : Int)])) * 8) ≤ 70368744177664))
      (cond (decide (((List.length x7) + (List.length [(3 : Int)])) ≤ 70368744177664))
       (nx (m_spec_KindsOfOrder_7 x1 x6 (x7 ++ [(3 : Int)]) (IntKind.wrap IntKind.i64 (x8 + (1 : Int)))))
       (none))
      (none)))))
  (hx.1 (d_spec_KindsOfOrder_7_0 x7))
def t_spec_KindsOfOrder_7 {R : Type} (nx : s_spec_KindsOfOrder_7.T → Option R) (hx : exH R x_spec_KindsOfOrder_7) (z : s_spec_KindsOfOrder_7.T) : Option R := u_spec_KindsOfOrder_7 nx hx z.1.1.1 z.1.2.1.1 z.1.2.2.1.1 z.1.2.2.2.1.1
theorem nat_spec_KindsOfOrder_7 : Natural @t_spec_KindsOfOrder_7 := fun R nx hx z => by
  show u_spec_KindsOfOrder_7 nx hx z.1.1.1 z.1.2.1.1 z.1.2.2.1.1 z.1.2.2.2.1.1 = (u_spec_KindsOfOrder_7 (fun y => some (.inl y)) (hIn x_spec_KindsOfOrder_7 fun x => some (.inr x)) z.1.1.1 z.1.2.1.1 z.1.2.2.1.1 z.1.2.2.2.1.1).bind (goOn nx hx)
  unfold u_spec_KindsOfOrder_7
  exact nat_cond (nat_cond (rfl) (nat_bind fun _ => nat_cond (nat_cond (nat_cond (nat_cond (rfl) (rfl)) (rfl)) (nat_cond (nat_cond (rfl) (rfl)) (rfl))) (nat_cond (nat_cond (nat_cond (rfl) (rfl)) (rfl)) (nat_cond (nat_cond (rfl) (rfl)) (rfl))))) (rfl)
def w_spec_KindsOfOrder_7 : s_spec_KindsOfOrder_7.T → Option (exT x_spec_KindsOfOrder_7) := wOf @t_spec_KindsOfOrder_7
theorem wq_spec_KindsOfOrder_7 x1 x6 x7 x8 : w_spec_KindsOfOrder_7 (m_spec_KindsOfOrder_7 x1 x6 x7 x8) = u_spec_KindsOfOrder_7 w_spec_KindsOfOrder_7 (hIn x_spec_KindsOfOrder_7 some) x1 x6 x7 x8 := wOf_eq nat_spec_KindsOfOrder_7 _
def lh_spec_KindsOfOrder_7 : LoopHint := ⟨[1, 6, 7, 8], [], [7], []⟩
def h_spec_KindsOfOrder : Hints Rv := ⟨fun k => match k with | 7 => lh_spec_KindsOfOrder_7 | _ => ⟨[], [], [], []⟩, fun k => match k with | 7 => some (loopX s_spec_KindsOfOrder_7 x_spec_KindsOfOrder_7 w_spec_KindsOfOrder_7) | _ => none⟩
theorem st_spec_KindsOfOrder_7 (n : Nat) (z : s_spec_KindsOfOrder_7.T) (k : Ex → Live → Option Rv) : loopN ⟨52, 52⟩ lh_spec_KindsOfOrder_7 (den (tab C0 T_spec_KindsOfOrder) ⟨52, 52⟩ h_spec_KindsOfOrder 1 (loopOf Try.f29 6)) (n + 1) (s_spec_KindsOfOrder_7.enc z) k =
    t_spec_KindsOfOrder_7 (fun y => loopN ⟨52, 52⟩ lh_spec_KindsOfOrder_7 (den (tab C0 T_spec_KindsOfOrder) ⟨52, 52⟩ h_spec_KindsOfOrder 1 (loopOf Try.f29 6)) n (s_spec_KindsOfOrder_7.enc y) k) (hK k x_spec_KindsOfOrder_7) z := by kernel_rfl
theorem hs_spec_KindsOfOrder : HintsOk (tab C0 T_spec_KindsOfOrder) ⟨52, 52⟩ h_spec_KindsOfOrder 1 (loops (codeOf Try.f29)) := by
  have hl : loops (codeOf Try.f29) = [loopOf Try.f29 6] := by kernel_rfl
  rw [hl]
  exact HintsOk.cons (n := 7) (lh := lh_spec_KindsOfOrder_7) (S := loopX s_spec_KindsOfOrder_7 x_spec_KindsOfOrder_7 w_spec_KindsOfOrder_7) (by kernel_rfl) rfl rfl (loopX_ok nat_spec_KindsOfOrder_7 st_spec_KindsOfOrder_7)
    (HintsOk.nil)
def t_spec_KindsOfOrder {R : Type} (kx : (List Int) × Bool → Option R) (a0 : (List Int)) (a1 : (List Int)) : Option R :=
  Option.bind (g_spec_l11Open (((List.length a0) : Nat) : Int)) fun y20 =>
  Option.bind (g_spec_GoodSectorOrder a0 y20 a1) fun y347 =>
  cond (!y347)
  (kx ([], Bool.false))
  (Option.bind (w_spec_KindsOfOrder_7 (m_spec_KindsOfOrder_7 a1 (((List.length a0) : Nat) : Int) [] (0 : Int))) (exC x_spec_KindsOfOrder_7
   (fun e353 =>
    kx ((e353.1.1.1 : List Int), Bool.true), ())))
def g_spec_KindsOfOrder (a0 : (List Int)) (a1 : (List Int)) : Option ((List Int) × Bool) := t_spec_KindsOfOrder some a0 a1
theorem nat_spec_KindsOfOrder {R} kx a0 a1 : @t_spec_KindsOfOrder R kx a0 a1 = (g_spec_KindsOfOrder a0 a1).bind kx := by
  unfold g_spec_KindsOfOrder t_spec_KindsOfOrder
  exact nat_bind fun _ => nat_bind fun _ => nat_cond (rfl) (nat_exC ⟨fun _ => rfl, trivial⟩)
abbrev k_spec_KindsOfOrder : Contract := .fx [.val false (.slice (.int .i64)), .val false (.slice (.int .i64))] ((List Int) × Bool) (fun z => g_spec_KindsOfOrder z.1 z.2.1) (fun b => (.tup [⟨false, [(.own (.int .i64) b.1)]⟩, ⟨false, [(.v (.bool b.2))]⟩], []))
theorem so_spec_KindsOfOrder : Sound C0 29 k_spec_KindsOfOrder :=
  Sound.fx (e := false) (t := T_spec_KindsOfOrder) (.cons so_spec_l11Open (.cons so_spec_GoodSectorOrder (.nil))) mixed Try.func29 (by kernel_rfl) (by kernel_rfl) h_spec_KindsOfOrder 1 hs_spec_KindsOfOrder (fun z => (by kernel_rfl : _ = t_spec_KindsOfOrder (fun b => some (k_spec_KindsOfOrder.enc b)) z.1 z.2.1).trans (nat_spec_KindsOfOrder _ z.1 z.2.1))

/-! ### F72 impl.length[int64] -/
def t_impl_length_int64 {R : Type} (kx : Int → Option R) (a0 : (List Int)) : Option R :=
  kx (((List.length a0) : Nat) : Int)
def g_impl_length_int64 (a0 : (List Int)) : Option (Int) := t_impl_length_int64 some a0
theorem nat_impl_length_int64 {R} kx a0 : @t_impl_length_int64 R kx a0 = (g_impl_length_int64 a0).bind kx := by
  unfold g_impl_length_int64 t_impl_length_int64
  exact rfl
abbrev k_impl_length_int64 : Contract := .fx [.val false (.slice (.int .i64))] (Int) (fun z => g_impl_length_int64 z.1) (fun b => (.one ⟨false, [(.v (.int .i64 b))]⟩, []))
theorem so_impl_length_int64 : Sound C0 72 k_impl_length_int64 :=
  Sound.fx (e := false) (.nil) mixed Try.func72 (by kernel_rfl) (by kernel_rfl) noHints 1 noHints_ok (fun z => (by kernel_rfl : _ = t_impl_length_int64 (fun b => some (k_impl_length_int64.enc b)) z.1).trans (nat_impl_length_int64 _ z.1))

/-! ### F45 impl.within -/
def t_impl_within {R : Type} (kx : Bool → Option R) (a0 : Int) (a1 : Int) (a2 : Int) : Option R :=
  cond (decide (a0 ≥ a1))
  (kx (decide (a0 ≤ a2)))
  (kx Bool.false)
def g_impl_within (a0 : Int) (a1 : Int) (a2 : Int) : Option (Bool) := t_impl_within some a0 a1 a2
theorem nat_impl_within {R} kx a0 a1 a2 : @t_impl_within R kx a0 a1 a2 = (g_impl_within a0 a1 a2).bind kx := by
  unfold g_impl_within t_impl_within
  exact nat_cond (rfl) (rfl)
abbrev k_impl_within : Contract := .fx [.val false (.int .i64), .val false (.int .i64), .val false (.int .i64)] (Bool) (fun z => g_impl_within z.1 z.2.1 z.2.2.1) (fun b => (.one ⟨false, [(.v (.bool b))]⟩, []))
theorem so_impl_within : Sound C0 45 k_impl_within :=
  Sound.fx (e := false) (.nil) mixed Try.func45 (by kernel_rfl) (by kernel_rfl) noHints 1 noHints_ok (fun z => (by kernel_rfl : _ = t_impl_within (fun b => some (k_impl_within.enc b)) z.1 z.2.1 z.2.2.1).trans (nat_impl_within _ z.1 z.2.1 z.2.2.1))

/-! ### F91 impl.ValidCone$1 -/
def t_impl_ValidCone_1 {R : Type} (kx : Bool → Option R) (a0 : Int) : Option R :=
  Option.bind (g_impl_within a0 (1 : Int) (16 : Int)) fun y374 =>
  kx (!y374)
def g_impl_ValidCone_1 (a0 : Int) : Option (Bool) := t_impl_ValidCone_1 some a0
theorem nat_impl_ValidCone_1 {R} kx a0 : @t_impl_ValidCone_1 R kx a0 = (g_impl_ValidCone_1 a0).bind kx := by
  unfold g_impl_ValidCone_1 t_impl_ValidCone_1
  exact nat_bind fun _ => rfl
abbrev k_impl_ValidCone_1 : Contract := .fx [.val false (.int .i64)] (Bool) (fun z => g_impl_ValidCone_1 z.1) (fun b => (.one ⟨false, [(.v (.bool b))]⟩, []))
theorem so_impl_ValidCone_1 : Sound C0 91 k_impl_ValidCone_1 :=
  Sound.fx (e := false) (.cons so_impl_within (.nil)) mixed Try.func91 (by kernel_rfl) (by kernel_rfl) noHints 1 noHints_ok (fun z => (by kernel_rfl : _ = t_impl_ValidCone_1 (fun b => some (k_impl_ValidCone_1.enc b)) z.1).trans (nat_impl_ValidCone_1 _ z.1))

/-! ### F103 slices.IndexFunc[[]int64,int64] -/
def T_slices_IndexFunc_Sint64_int64__impl_ValidCone_1 : List (FuncId × Contract) := [(91, k_impl_ValidCone_1)]
abbrev s_slices_IndexFunc_Sint64_int64__impl_ValidCone_1_3 : LS := ⟨[(false, [(.sl (.int .i64))]), (false, [(.fn 91 [])]), (false, [(.int .i64)]), (false, [(.int .i64)])], [], []⟩
abbrev e_slices_IndexFunc_Sint64_int64__impl_ValidCone_1_3_0 : LS := ⟨[(false, [(.int .i64)])], [], []⟩
abbrev d_slices_IndexFunc_Sint64_int64__impl_ValidCone_1_3_0 (v0 : Int) := ((((v0, ()), ()), (), ()) : e_slices_IndexFunc_Sint64_int64__impl_ValidCone_1_3_0.T)
abbrev e_slices_IndexFunc_Sint64_int64__impl_ValidCone_1_3_1 : LS := ⟨[(false, [.undef])], [], []⟩
abbrev d_slices_IndexFunc_Sint64_int64__impl_ValidCone_1_3_1 := (((((), ()), ()), (), ()) : e_slices_IndexFunc_Sint64_int64__impl_ValidCone_1_3_1.T)
abbrev x_slices_IndexFunc_Sint64_int64__impl_ValidCone_1_3 : List (Ex × LS) := [(.ret, e_slices_IndexFunc_Sint64_int64__impl_ValidCone_1_3_0), (.exit 0, e_slices_IndexFunc_Sint64_int64__impl_ValidCone_1_3_1)]
abbrev m_slices_IndexFunc_Sint64_int64__impl_ValidCone_1_3 (x0 : List Int) (x7 : Int) (x8 : Int) := ((((x0, ()), ((), ()), (x7, ()), (x8, ()), ()), (), ()) : s_slices_IndexFunc_Sint64_int64__impl_ValidCone_1_3.T)
def u_slices_IndexFunc_Sint64_int64__impl_ValidCone_1_3 {R : Type} (nx : s_slices_IndexFunc_Sint64_int64__impl_ValidCone_1_3.T → Option R) (hx : exH R x_slices_IndexFunc_Sint64_int64__impl_ValidCone_1_3) (x0 : List Int) (x7 : Int) (x8 : Int) : Option R :=
  cond (decide (x8 < x7))
  (Option.bind (idx x0 x8) fun y372 =>
   Option.bind (g_impl_ValidCone_1 y372) fun y375 =>
   cond y375
   (hx.1 (d_slices_IndexFunc_Sint64_int64__impl_ValidCone_1_3_0 x8))
   (nx (m_slices_IndexFunc_Sint64_int64__impl_ValidCone_1_3 x0 x7 (IntKind.wrap IntKind.i64 (x8 + (1 : Int))))))
  (hx.2.1 (d_slices_IndexFunc_Sint64_int64__impl_ValidCone_1_3_1))
def t_slices_IndexFunc_Sint64_int64__impl_ValidCone_1_3 {R : Type} (nx : s_slices_IndexFunc_Sint64_int64__impl_ValidCone_1_3.T → Option R) (hx : exH R x_slices_IndexFunc_Sint64_int64__impl_ValidCone_1_3) (z : s_slices_IndexFunc_Sint64_int64__impl_ValidCone_1_3.T) : Option R := u_slices_IndexFunc_Sint64_int64__impl_ValidCone_1_3 nx hx z.1.1.1 z.1.2.2.1.1 z.1.2.2.2.1.1
theorem nat_slices_IndexFunc_Sint64_int64__impl_ValidCone_1_3 : Natural @t_slices_IndexFunc_Sint64_int64__impl_ValidCone_1_3 := fun R nx hx z => by
  show u_slices_IndexFunc_Sint64_int64__impl_ValidCone_1_3 nx hx z.1.1.1 z.1.2.2.1.1 z.1.2.2.2.1.1 = (u_slices_IndexFunc_Sint64_int64__impl_ValidCone_1_3 (fun y => some (.inl y)) (hIn x_slices_IndexFunc_Sint64_int64__impl_ValidCone_1_3 fun x => some (.inr x)) z.1.1.1 z.1.2.2.1.1 z.1.2.2.2.1.1).bind (goOn nx hx)
  unfold u_slices_IndexFunc_Sint64_int64__impl_ValidCone_1_3
  exact nat_cond (nat_bind fun _ => nat_bind fun _ => nat_cond (rfl) (rfl)) (rfl)
def w_slices_IndexFunc_Sint64_int64__impl_ValidCone_1_3 : s_slices_IndexFunc_Sint64_int64__impl_ValidCone_1_3.T → Option (exT x_slices_IndexFunc_Sint64_int64__impl_ValidCone_1_3) := wOf @t_slices_IndexFunc_Sint64_int64__impl_ValidCone_1_3
theorem wq_slices_IndexFunc_Sint64_int64__impl_ValidCone_1_3 x0 x7 x8 : w_slices_IndexFunc_Sint64_int64__impl_ValidCone_1_3 (m_slices_IndexFunc_Sint64_int64__impl_ValidCone_1_3 x0 x7 x8) = u_slices_IndexFunc_Sint64_int64__impl_ValidCone_1_3 w_slices_IndexFunc_Sint64_int64__impl_ValidCone_1_3 (hIn x_slices_IndexFunc_Sint64_int64__impl_ValidCone_1_3 some) x0 x7 x8 := wOf_eq nat_slices_IndexFunc_Sint64_int64__impl_ValidCone_1_3 _
def lh_slices_IndexFunc_Sint64_int64__impl_ValidCone_1_3 : LoopHint := ⟨[0, 1, 7, 8], [], [4], []⟩
def h_slices_IndexFunc_Sint64_int64__impl_ValidCone_1 : Hints Rv := ⟨fun k => match k with | 3 => lh_slices_IndexFunc_Sint64_int64__impl_ValidCone_1_3 | _ => ⟨[], [], [], []⟩, fun k => match k with | 3 => some (loopX s_slices_IndexFunc_Sint64_int64__impl_ValidCone_1_3 x_slices_IndexFunc_Sint64_int64__impl_ValidCone_1_3 w_slices_IndexFunc_Sint64_int64__impl_ValidCone_1_3) | _ => none⟩
theorem st_slices_IndexFunc_Sint64_int64__impl_ValidCone_1_3 (n : Nat) (z : s_slices_IndexFunc_Sint64_int64__impl_ValidCone_1_3.T) (k : Ex → Live → Option Rv) : loopN ⟨19, 19⟩ lh_slices_IndexFunc_Sint64_int64__impl_ValidCone_1_3 (den (tab C0 T_slices_IndexFunc_Sint64_int64__impl_ValidCone_1) ⟨19, 19⟩ h_slices_IndexFunc_Sint64_int64__impl_ValidCone_1 1 (loopOf Try.f103 2)) (n + 1) (s_slices_IndexFunc_Sint64_int64__impl_ValidCone_1_3.enc z) k =
    t_slices_IndexFunc_Sint64_int64__impl_ValidCone_1_3 (fun y => loopN ⟨19, 19⟩ lh_slices_IndexFunc_Sint64_int64__impl_ValidCone_1_3 (den (tab C0 T_slices_IndexFunc_Sint64_int64__impl_ValidCone_1) ⟨19, 19⟩ h_slices_IndexFunc_Sint64_int64__impl_ValidCone_1 1 (loopOf Try.f103 2)) n (s_slices_IndexFunc_Sint64_int64__impl_ValidCone_1_3.enc y) k) (hK k x_slices_IndexFunc_Sint64_int64__impl_ValidCone_1_3) z := by kernel_rfl
theorem hs_slices_IndexFunc_Sint64_int64__impl_ValidCone_1 : HintsOk (tab C0 T_slices_IndexFunc_Sint64_int64__impl_ValidCone_1) ⟨19, 19⟩ h_slices_IndexFunc_Sint64_int64__impl_ValidCone_1 1 (loops (codeOf Try.f103)) := by
  have hl : loops (codeOf Try.f103) = [loopOf Try.f103 2] := by kernel_rfl
  rw [hl]
  exact HintsOk.cons (n := 3) (lh := lh_slices_IndexFunc_Sint64_int64__impl_ValidCone_1_3) (S := loopX s_slices_IndexFunc_Sint64_int64__impl_ValidCone_1_3 x_slices_IndexFunc_Sint64_int64__impl_ValidCone_1_3 w_slices_IndexFunc_Sint64_int64__impl_ValidCone_1_3) (by kernel_rfl) rfl rfl (loopX_ok nat_slices_IndexFunc_Sint64_int64__impl_ValidCone_1_3 st_slices_IndexFunc_Sint64_int64__impl_ValidCone_1_3)
    (HintsOk.nil)
def t_slices_IndexFunc_Sint64_int64__impl_ValidCone_1 {R : Type} (kx : Int → Option R) (a0 : (List Int)) : Option R :=
  Option.bind (w_slices_IndexFunc_Sint64_int64__impl_ValidCone_1_3 (m_slices_IndexFunc_Sint64_int64__impl_ValidCone_1_3 a0 (((List.length a0) : Nat) : Int) (0 : Int))) (exC x_slices_IndexFunc_Sint64_int64__impl_ValidCone_1_3
  (fun e376 =>
   kx (e376.1.1.1 : Int), fun _ =>
   kx (-(1 : Int)), ()))
def g_slices_IndexFunc_Sint64_int64__impl_ValidCone_1 (a0 : (List Int)) : Option (Int) := t_slices_IndexFunc_Sint64_int64__impl_ValidCone_1 some a0
theorem nat_slices_IndexFunc_Sint64_int64__impl_ValidCone_1 {R} kx a0 : @t_slices_IndexFunc_Sint64_int64__impl_ValidCone_1 R kx a0 = (g_slices_IndexFunc_Sint64_int64__impl_ValidCone_1 a0).bind kx := by
  unfold g_slices_IndexFunc_Sint64_int64__impl_ValidCone_1 t_slices_IndexFunc_Sint64_int64__impl_ValidCone_1
  exact nat_exC ⟨fun _ => rfl, fun _ => rfl, trivial⟩
abbrev k_slices_IndexFunc_Sint64_int64__impl_ValidCone_1 : Contract := .fx [.val false (.slice (.int .i64)), .clo 91 []] (Int) (fun z => g_slices_IndexFunc_Sint64_int64__impl_ValidCone_1 z.1) (fun b => (.one ⟨false, [(.v (.int .i64 b))]⟩, []))
theorem so_slices_IndexFunc_Sint64_int64__impl_ValidCone_1 : Sound C0 103 k_slices_IndexFunc_Sint64_int64__impl_ValidCone_1 :=
  Sound.fx (e := false) (t := T_slices_IndexFunc_Sint64_int64__impl_ValidCone_1) (.cons so_impl_ValidCone_1 (.nil)) mixed Try.func103 (by kernel_rfl) (by kernel_rfl) h_slices_IndexFunc_Sint64_int64__impl_ValidCone_1 1 hs_slices_IndexFunc_Sint64_int64__impl_ValidCone_1 (fun z => (by kernel_rfl : _ = t_slices_IndexFunc_Sint64_int64__impl_ValidCone_1 (fun b => some (k_slices_IndexFunc_Sint64_int64__impl_ValidCone_1.enc b)) z.1).trans (nat_slices_IndexFunc_Sint64_int64__impl_ValidCone_1 _ z.1))

/-! ### F68 slices.ContainsFunc[[]int64,int64] -/
def t_slices_ContainsFunc_Sint64_int64__impl_ValidCone_1 {R : Type} (kx : Bool → Option R) (a0 : (List Int)) : Option R :=
  Option.bind (g_slices_IndexFunc_Sint64_int64__impl_ValidCone_1 a0) fun y379 =>
  kx (decide (y379 ≥ (0 : Int)))
def g_slices_ContainsFunc_Sint64_int64__impl_ValidCone_1 (a0 : (List Int)) : Option (Bool) := t_slices_ContainsFunc_Sint64_int64__impl_ValidCone_1 some a0
theorem nat_slices_ContainsFunc_Sint64_int64__impl_ValidCone_1 {R} kx a0 : @t_slices_ContainsFunc_Sint64_int64__impl_ValidCone_1 R kx a0 = (g_slices_ContainsFunc_Sint64_int64__impl_ValidCone_1 a0).bind kx := by
  unfold g_slices_ContainsFunc_Sint64_int64__impl_ValidCone_1 t_slices_ContainsFunc_Sint64_int64__impl_ValidCone_1
  exact nat_bind fun _ => rfl
abbrev k_slices_ContainsFunc_Sint64_int64__impl_ValidCone_1 : Contract := .fx [.val false (.slice (.int .i64)), .clo 91 []] (Bool) (fun z => g_slices_ContainsFunc_Sint64_int64__impl_ValidCone_1 z.1) (fun b => (.one ⟨false, [(.v (.bool b))]⟩, []))
theorem so_slices_ContainsFunc_Sint64_int64__impl_ValidCone_1 : Sound C0 68 k_slices_ContainsFunc_Sint64_int64__impl_ValidCone_1 :=
  Sound.fx (e := false) (.cons so_slices_IndexFunc_Sint64_int64__impl_ValidCone_1 (.nil)) mixed Try.func68 (by kernel_rfl) (by kernel_rfl) noHints 1 noHints_ok (fun z => (by kernel_rfl : _ = t_slices_ContainsFunc_Sint64_int64__impl_ValidCone_1 (fun b => some (k_slices_ContainsFunc_Sint64_int64__impl_ValidCone_1.enc b)) z.1).trans (nat_slices_ContainsFunc_Sint64_int64__impl_ValidCone_1 _ z.1))

/-! ### F92 impl.sumOf -/
def T_impl_sumOf : List (FuncId × Contract) := []
abbrev s_impl_sumOf_4 : LS := ⟨[(false, [(.int .i64)]), (false, [(.sl (.int .i64))]), (false, [(.int .i64)]), (false, [(.int .i64)])], [], []⟩
abbrev e_impl_sumOf_4_0 : LS := ⟨[(false, [(.int .i64)])], [], []⟩
abbrev d_impl_sumOf_4_0 (v0 : Int) := ((((v0, ()), ()), (), ()) : e_impl_sumOf_4_0.T)
abbrev x_impl_sumOf_4 : List (Ex × LS) := [(.exit 0, e_impl_sumOf_4_0)]
abbrev m_impl_sumOf_4 (x3 : Int) (x6 : List Int) (x7 : Int) (x8 : Int) := ((((x3, ()), (x6, ()), (x7, ()), (x8, ()), ()), (), ()) : s_impl_sumOf_4.T)
def u_impl_sumOf_4 {R : Type} (nx : s_impl_sumOf_4.T → Option R) (hx : exH R x_impl_sumOf_4) (x3 : Int) (x6 : List Int) (x7 : Int) (x8 : Int) : Option R :=
  cond (decide (x8 < x7))
  (Option.bind (idx x6 x8) fun y386 =>
   nx (m_impl_sumOf_4 (IntKind.wrap IntKind.i64 (x3 + y386)) x6 x7 (IntKind.wrap IntKind.i64 (x8 + (1 : Int)))))
  (hx.1 (d_impl_sumOf_4_0 x3))
def t_impl_sumOf_4 {R : Type} (nx : s_impl_sumOf_4.T → Option R) (hx : exH R x_impl_sumOf_4) (z : s_impl_sumOf_4.T) : Option R := u_impl_sumOf_4 nx hx z.1.1.1 z.1.2.1.1 z.1.2.2.1.1 z.1.2.2.2.1.1
theorem nat_impl_sumOf_4 : Natural @t_impl_sumOf_4 := fun R nx hx z => by
  show u_impl_sumOf_4 nx hx z.1.1.1 z.1.2.1.1 z.1.2.2.1.1 z.1.2.2.2.1.1 = (u_impl_sumOf_4 (fun y => some (.inl y)) (hIn x_impl_sumOf_4 fun x => some (.inr x)) z.1.1.1 z.1.2.1.1 z.1.2.2.1.1 z.1.2.2.2.1.1).bind (goOn nx hx)
  unfold u_impl_sumOf_4
  exact nat_cond (nat_bind fun _ => rfl) (rfl)
def w_impl_sumOf_4 : s_impl_sumOf_4.T → Option (exT x_impl_sumOf_4) := wOf @t_impl_sumOf_4
theorem wq_impl_sumOf_4 x3 x6 x7 x8 : w_impl_sumOf_4 (m_impl_sumOf_4 x3 x6 x7 x8) = u_impl_sumOf_4 w_impl_sumOf_4 (hIn x_impl_sumOf_4 some) x3 x6 x7 x8 := wOf_eq nat_impl_sumOf_4 _
def lh_impl_sumOf_4 : LoopHint := ⟨[3, 6, 7, 8], [], [3], []⟩
def h_impl_sumOf : Hints Rv := ⟨fun k => match k with | 4 => lh_impl_sumOf_4 | _ => ⟨[], [], [], []⟩, fun k => match k with | 4 => some (loopX s_impl_sumOf_4 x_impl_sumOf_4 w_impl_sumOf_4) | _ => none⟩
theorem st_impl_sumOf_4 (n : Nat) (z : s_impl_sumOf_4.T) (k : Ex → Live → Option Rv) : loopN ⟨17, 17⟩ lh_impl_sumOf_4 (den (tab C0 T_impl_sumOf) ⟨17, 17⟩ h_impl_sumOf 1 (loopOf Try.f92 3)) (n + 1) (s_impl_sumOf_4.enc z) k =
    t_impl_sumOf_4 (fun y => loopN ⟨17, 17⟩ lh_impl_sumOf_4 (den (tab C0 T_impl_sumOf) ⟨17, 17⟩ h_impl_sumOf 1 (loopOf Try.f92 3)) n (s_impl_sumOf_4.enc y) k) (hK k x_impl_sumOf_4) z := by kernel_rfl
theorem hs_impl_sumOf : HintsOk (tab C0 T_impl_sumOf) ⟨17, 17⟩ h_impl_sumOf 1 (loops (codeOf Try.f92)) := by
  have hl : loops (codeOf Try.f92) = [loopOf Try.f92 3] := by kernel_rfl
  rw [hl]
  exact HintsOk.cons (n := 4) (lh := lh_impl_sumOf_4) (S := loopX s_impl_sumOf_4 x_impl_sumOf_4 w_impl_sumOf_4) (by kernel_rfl) rfl rfl (loopX_ok nat_impl_sumOf_4 st_impl_sumOf_4)
    (HintsOk.nil)
def t_impl_sumOf {R : Type} (kx : Int → Option R) (a0 : (List Int)) : Option R :=
  Option.bind (w_impl_sumOf_4 (m_impl_sumOf_4 (0 : Int) a0 (((List.length a0) : Nat) : Int) (0 : Int))) (exC x_impl_sumOf_4
  (fun e387 =>
   kx (e387.1.1.1 : Int), ()))
def g_impl_sumOf (a0 : (List Int)) : Option (Int) := t_impl_sumOf some a0
theorem nat_impl_sumOf {R} kx a0 : @t_impl_sumOf R kx a0 = (g_impl_sumOf a0).bind kx := by
  unfold g_impl_sumOf t_impl_sumOf
  exact nat_exC ⟨fun _ => rfl, trivial⟩
abbrev k_impl_sumOf : Contract := .fx [.val false (.slice (.int .i64))] (Int) (fun z => g_impl_sumOf z.1) (fun b => (.one ⟨false, [(.v (.int .i64 b))]⟩, []))
theorem so_impl_sumOf : Sound C0 92 k_impl_sumOf :=
  Sound.fx (e := false) (t := T_impl_sumOf) (.nil) mixed Try.func92 (by kernel_rfl) (by kernel_rfl) h_impl_sumOf 1 hs_impl_sumOf (fun z => (by kernel_rfl : _ = t_impl_sumOf (fun b => some (k_impl_sumOf.enc b)) z.1).trans (nat_impl_sumOf _ z.1))

/-! ### F93 impl.alternating -/
def T_impl_alternating : List (FuncId × Contract) := []
abbrev s_impl_alternating_4 : LS := ⟨[(false, [(.int .i64)]), (false, [(.sl (.int .i64))]), (false, [(.int .i64)]), (false, [(.int .i64)])], [], []⟩
abbrev e_impl_alternating_4_0 : LS := ⟨[(false, [(.int .i64)])], [], []⟩
abbrev d_impl_alternating_4_0 (v0 : Int) := ((((v0, ()), ()), (), ()) : e_impl_alternating_4_0.T)
abbrev x_impl_alternating_4 : List (Ex × LS) := [(.exit 0, e_impl_alternating_4_0)]
abbrev m_impl_alternating_4 (x3 : Int) (x6 : List Int) (x7 : Int) (x8 : Int) := ((((x3, ()), (x6, ()), (x7, ()), (x8, ()), ()), (), ()) : s_impl_alternating_4.T)
def u_impl_alternating_4 {R : Type} (nx : s_impl_alternating_4.T → Option R) (hx : exH R x_impl_alternating_4) (x3 : Int) (x6 : List Int) (x7 : Int) (x8 : Int) : Option R :=
  cond (decide (x8 < x7))
  (Option.bind (idx x6 x8) fun y395 =>
   cond ((Int.tmod x8 (2 : Int)) == (0 : Int))
   (nx (m_impl_alternating_4 (IntKind.wrap IntKind.i64 (x3 + y395)) x6 x7 (IntKind.wrap IntKind.i64 (x8 + (1 : Int)))))
   (nx (m_impl_alternating_4 (IntKind.wrap IntKind.i64 (x3 - y395)) x6 x7 (IntKind.wrap IntKind.i64 (x8 + (1 : Int))))))
  (hx.1 (d_impl_alternating_4_0 x3))
def t_impl_alternating_4 {R : Type} (nx : s_impl_alternating_4.T → Option R) (hx : exH R x_impl_alternating_4) (z : s_impl_alternating_4.T) : Option R := u_impl_alternating_4 nx hx z.1.1.1 z.1.2.1.1 z.1.2.2.1.1 z.1.2.2.2.1.1
theorem nat_impl_alternating_4 : Natural @t_impl_alternating_4 := fun R nx hx z => by
  show u_impl_alternating_4 nx hx z.1.1.1 z.1.2.1.1 z.1.2.2.1.1 z.1.2.2.2.1.1 = (u_impl_alternating_4 (fun y => some (.inl y)) (hIn x_impl_alternating_4 fun x => some (.inr x)) z.1.1.1 z.1.2.1.1 z.1.2.2.1.1 z.1.2.2.2.1.1).bind (goOn nx hx)
  unfold u_impl_alternating_4
  exact nat_cond (nat_bind fun _ => nat_cond (rfl) (rfl)) (rfl)
def w_impl_alternating_4 : s_impl_alternating_4.T → Option (exT x_impl_alternating_4) := wOf @t_impl_alternating_4
theorem wq_impl_alternating_4 x3 x6 x7 x8 : w_impl_alternating_4 (m_impl_alternating_4 x3 x6 x7 x8) = u_impl_alternating_4 w_impl_alternating_4 (hIn x_impl_alternating_4 some) x3 x6 x7 x8 := wOf_eq nat_impl_alternating_4 _
def lh_impl_alternating_4 : LoopHint := ⟨[3, 6, 7, 8], [], [3], []⟩
def h_impl_alternating : Hints Rv := ⟨fun k => match k with | 4 => lh_impl_alternating_4 | _ => ⟨[], [], [], []⟩, fun k => match k with | 4 => some (loopX s_impl_alternating_4 x_impl_alternating_4 w_impl_alternating_4) | _ => none⟩
theorem st_impl_alternating_4 (n : Nat) (z : s_impl_alternating_4.T) (k : Ex → Live → Option Rv) : loopN ⟨24, 24⟩ lh_impl_alternating_4 (den (tab C0 T_impl_alternating) ⟨24, 24⟩ h_impl_alternating 1 (loopOf Try.f93 3)) (n + 1) (s_impl_alternating_4.enc z) k =
    t_impl_alternating_4 (fun y => loopN ⟨24, 24⟩ lh_impl_alternating_4 (den (tab C0 T_impl_alternating) ⟨24, 24⟩ h_impl_alternating 1 (loopOf Try.f93 3)) n (s_impl_alternating_4.enc y) k) (hK k x_impl_alternating_4) z := by kernel_rfl
theorem hs_impl_alternating : HintsOk (tab C0 T_impl_alternating) ⟨24, 24⟩ h_impl_alternating 1 (loops (codeOf Try.f93)) := by
  have hl : loops (codeOf Try.f93) = [loopOf Try.f93 3] := by kernel_rfl
  rw [hl]
  exact HintsOk.cons (n := 4) (lh := lh_impl_alternating_4) (S := loopX s_impl_alternating_4 x_impl_alternating_4 w_impl_alternating_4) (by kernel_rfl) rfl rfl (loopX_ok nat_impl_alternating_4 st_impl_alternating_4)
    (HintsOk.nil)
def t_impl_alternating {R : Type} (kx : Int → Option R) (a0 : (List Int)) : Option R :=
  Option.bind (w_impl_alternating_4 (m_impl_alternating_4 (0 : Int) a0 (((List.length a0) : Nat) : Int) (0 : Int))) (exC x_impl_alternating_4
  (fun e396 =>
   kx (e396.1.1.1 : Int), ()))
def g_impl_alternating (a0 : (List Int)) : Option (Int) := t_impl_alternating some a0
theorem nat_impl_alternating {R} kx a0 : @t_impl_alternating R kx a0 = (g_impl_alternating a0).bind kx := by
  unfold g_impl_alternating t_impl_alternating
  exact nat_exC ⟨fun _ => rfl, trivial⟩
abbrev k_impl_alternating : Contract := .fx [.val false (.slice (.int .i64))] (Int) (fun z => g_impl_alternating z.1) (fun b => (.one ⟨false, [(.v (.int .i64 b))]⟩, []))
theorem so_impl_alternating : Sound C0 93 k_impl_alternating :=
  Sound.fx (e := false) (t := T_impl_alternating) (.nil) mixed Try.func93 (by kernel_rfl) (by kernel_rfl) h_impl_alternating 1 hs_impl_alternating (fun z => (by kernel_rfl : _ = t_impl_alternating (fun b => some (k_impl_alternating.enc b)) z.1).trans (nat_impl_alternating _ z.1))

/-! ### F56 impl.ValidCone -/
def t_impl_ValidCone {R : Type} (kx : Bool → Option R) (a0 : (List Int)) : Option R :=
  Option.bind (g_impl_length_int64 a0) fun y362 =>
  Option.bind (g_impl_within y362 (2 : Int) (16 : Int)) fun y366 =>
  cond (!y366)
  (kx Bool.false)
  (cond ((Int.tmod (((List.length a0) : Nat) : Int) (2 : Int)) == (1 : Int))
   (kx Bool.false)
   (Option.bind (g_slices_ContainsFunc_Sint64_int64__impl_ValidCone_1 a0) fun y380 =>
    cond (!y380)
    (Option.bind (g_impl_sumOf a0) fun y389 =>
     cond (decide (y389 ≤ (16 : Int)))
     (Option.bind (g_impl_alternating a0) fun y398 =>
      kx (y398 == (0 : Int)))
     (kx Bool.false))
    (kx Bool.false)))
def g_impl_ValidCone (a0 : (List Int)) : Option (Bool) := t_impl_ValidCone some a0
theorem nat_impl_ValidCone {R} kx a0 : @t_impl_ValidCone R kx a0 = (g_impl_ValidCone a0).bind kx := by
  unfold g_impl_ValidCone t_impl_ValidCone
  exact nat_bind fun _ => nat_bind fun _ => nat_cond (rfl) (nat_cond (rfl) (nat_bind fun _ => nat_cond (nat_bind fun _ => nat_cond (nat_bind fun _ => rfl) (rfl)) (rfl)))
abbrev k_impl_ValidCone : Contract := .fx [.val false (.slice (.int .i64))] (Bool) (fun z => g_impl_ValidCone z.1) (fun b => (.one ⟨false, [(.v (.bool b))]⟩, []))
theorem so_impl_ValidCone : Sound C0 56 k_impl_ValidCone :=
  Sound.fx (e := false) (.cons so_impl_length_int64 (.cons so_impl_within (.cons so_slices_ContainsFunc_Sint64_int64__impl_ValidCone_1 (.cons so_impl_sumOf (.cons so_impl_alternating (.nil)))))) mixed Try.func56 (by kernel_rfl) (by kernel_rfl) noHints 1 noHints_ok (fun z => (by kernel_rfl : _ = t_impl_ValidCone (fun b => some (k_impl_ValidCone.enc b)) z.1).trans (nat_impl_ValidCone _ z.1))

/-! ### F123 math/bits.Mul64 -/
def t_math_bits_Mul64 {R : Type} (kx : Int × Int → Option R) (a0 : Int) (a1 : Int) : Option R :=
  kx ((IntKind.wrap IntKind.u64 ((IntKind.wrap IntKind.u64 ((IntKind.wrap IntKind.u64 ((Int.fdiv a0 ((2 : Int) ^ (Min.min (Int.toNat (32 : Int)) 64))) * (Int.fdiv a1 ((2 : Int) ^ (Min.min (Int.toNat (32 : Int)) 64))))) + (Int.fdiv (IntKind.wrap IntKind.u64 ((IntKind.wrap IntKind.u64 ((Int.fdiv a0 ((2 : Int) ^ (Min.min (Int.toNat (32 : Int)) 64))) * (IntKind.wrap IntKind.u64 (((BitVec.toNat ((BitVec.ofInt 64 a1) &&& (BitVec.ofInt 64 (4294967295 : Int)))) : Nat) : Int)))) + (Int.fdiv (IntKind.wrap IntKind.u64 ((IntKind.wrap IntKind.u64 (((BitVec.toNat ((BitVec.ofInt 64 a0) &&& (BitVec.ofInt 64 (4294967295 : Int)))) : Nat) : Int)) * (IntKind.wrap IntKind.u64 (((BitVec.toNat ((BitVec.ofInt 64 a1) &&& (BitVec.ofInt 64 (4294967295 : Int)))) : Nat) : Int)))) ((2 : Int) ^ (Min.min (Int.toNat (32 : Int)) 64))))) ((2 : Int) ^ (Min.min (Int.toNat (32 : Int)) 64))))) + (Int.fdiv (IntKind.wrap IntKind.u64 ((IntKind.wrap IntKind.u64 (((BitVec.toNat ((BitVec.ofInt 64 (IntKind.wrap IntKind.u64 ((IntKind.wrap IntKind.u64 ((Int.fdiv a0 ((2 : Int) ^ (Min.min (Int.toNat (32 : Int)) 64))) * (IntKind.wrap IntKind.u64 (((BitVec.toNat ((BitVec.ofInt 64 a1) &&& (BitVec.ofInt 64 (4294967295 : Int)))) : Nat) : Int)))) + (Int.fdiv (IntKind.wrap IntKind.u64 ((IntKind.wrap IntKind.u64 (((BitVec.toNat ((BitVec.ofInt 64 a0) &&& (BitVec.ofInt 64 (4294967295 : Int)))) : Nat) : Int)) * (IntKind.wrap IntKind.u64 (((BitVec.toNat ((BitVec.ofInt 64 a1) &&& (BitVec.ofInt 64 (4294967295 : Int)))) : Nat) : Int)))) ((2 : Int) ^ (Min.min (Int.toNat (32 : Int)) 64)))))) &&& (BitVec.ofInt 64 (4294967295 : Int)))) : Nat) : Int)) + (IntKind.wrap IntKind.u64 ((IntKind.wrap IntKind.u64 (((BitVec.toNat ((BitVec.ofInt 64 a0) &&& (BitVec.ofInt 64 (4294967295 : Int)))) : Nat) : Int)) * (Int.fdiv a1 ((2 : Int) ^ (Min.min (Int.toNat (32 : Int)) 64))))))) ((2 : Int) ^ (Min.min (Int.toNat (32 : Int)) 64))))), (IntKind.wrap IntKind.u64 (a0 * a1)))
def g_math_bits_Mul64 (a0 : Int) (a1 : Int) : Option (Int × Int) := t_math_bits_Mul64 some a0 a1
theorem nat_math_bits_Mul64 {R} kx a0 a1 : @t_math_bits_Mul64 R kx a0 a1 = (g_math_bits_Mul64 a0 a1).bind kx := by
  unfold g_math_bits_Mul64 t_math_bits_Mul64
  exact rfl
abbrev k_math_bits_Mul64 : Contract := .fx [.val false (.int .u64), .val false (.int .u64)] (Int × Int) (fun z => g_math_bits_Mul64 z.1 z.2.1) (fun b => (.tup [⟨false, [(.v (.int .u64 b.1))]⟩, ⟨false, [(.v (.int .u64 b.2))]⟩], []))
theorem so_math_bits_Mul64 : Sound C0 123 k_math_bits_Mul64 :=
  Sound.fx (e := false) (.nil) mixed Try.func123 (by kernel_rfl) (by kernel_rfl) noHints 1 noHints_ok (fun z => (by kernel_rfl : _ = t_math_bits_Mul64 (fun b => some (k_math_bits_Mul64.enc b)) z.1 z.2.1).trans (nat_math_bits_Mul64 _ z.1 z.2.1))

/-! ### F97 math/bits.Mul -/
def t_math_bits_Mul {R : Type} (kx : Int × Int → Option R) (a0 : Int) (a1 : Int) : Option R :=
  Option.bind (g_math_bits_Mul64 a0 a1) fun y406 =>
  kx y406
def g_math_bits_Mul (a0 : Int) (a1 : Int) : Option (Int × Int) := t_math_bits_Mul some a0 a1
theorem nat_math_bits_Mul {R} kx a0 a1 : @t_math_bits_Mul R kx a0 a1 = (g_math_bits_Mul a0 a1).bind kx := by
  unfold g_math_bits_Mul t_math_bits_Mul
  exact nat_bind fun _ => rfl
abbrev k_math_bits_Mul : Contract := .fx [.val false (.int .u64), .val false (.int .u64)] (Int × Int) (fun z => g_math_bits_Mul z.1 z.2.1) (fun b => (.tup [⟨false, [(.v (.int .u64 b.1))]⟩, ⟨false, [(.v (.int .u64 b.2))]⟩], []))
theorem so_math_bits_Mul : Sound C0 97 k_math_bits_Mul :=
  Sound.fx (e := false) (.cons so_math_bits_Mul64 (.nil)) mixed Try.func97 (by kernel_rfl) (by kernel_rfl) noHints 1 noHints_ok (fun z => (by kernel_rfl : _ = t_math_bits_Mul (fun b => some (k_math_bits_Mul.enc b)) z.1 z.2.1).trans (nat_math_bits_Mul _ z.1 z.2.1))

/-! ### F60 slices.Repeat[[]int64,int64] -/
def T_slices_Repeat_Sint64_int64 : List (FuncId × Contract) := [(97, k_math_bits_Mul)]
abbrev s_slices_Repeat_Sint64_int64_9 : LS := ⟨[(false, [(.own (.int .i64))]), (false, [(.int .i64)])], [], []⟩
abbrev e_slices_Repeat_Sint64_int64_9_0 : LS := ⟨[(false, [(.own (.int .i64))])], [], []⟩
abbrev d_slices_Repeat_Sint64_int64_9_0 (v0 : List Int) := ((((v0, ()), ()), (), ()) : e_slices_Repeat_Sint64_int64_9_0.T)
abbrev x_slices_Repeat_Sint64_int64_9 : List (Ex × LS) := [(.exit 0, e_slices_Repeat_Sint64_int64_9_0)]
abbrev m_slices_Repeat_Sint64_int64_9 (x7 : List Int) (x8 : Int) := ((((x7, ()), (x8, ()), ()), (), ()) : s_slices_Repeat_Sint64_int64_9.T)
def u_slices_Repeat_Sint64_int64_9 {R : Type} (nx : s_slices_Repeat_Sint64_int64_9.T → Option R) (hx : exH R x_slices_Repeat_Sint64_int64_9) (x7 : List Int) (x8 : Int) : Option R :=
  cond (decide (x8 < (((List.length x7) : Nat) : Int)))
  (cond (decide (0 < (List.length x7)))
   (cond (decide ((0 : Int) ≤ x8))
    (cond (decide (x8 ≤ (((List.length x7) : Nat) : Int)))
     (cond (decide (0 < (List.length x7)))
      (cond (decide ((0 : Int) ≤ x8))
       (cond (decide (x8 ≤ (((List.length x7) : Nat) : Int)))
        (cond (decide ((List.length (List.drop 0 (List.take (Int.toNat x8) x7))) ≤ (List.length (List.drop (Int.toNat x8) (List.take (List.length x7) x7)))))
         (nx (m_slices_Repeat_Sint64_int64_9 (overL 0 (0 + (Int.toNat x8)) (List.drop 0 (List.take (Int.toNat x8) x7)) x7) (IntKind.wrap IntKind.i64 (x8 + (((List.length (List.drop 0 (List.take (Int.toNat x8) x7))) : Nat) : Int)))))
         (nx (m_slices_Repeat_Sint64_int64_9 (overL 0 (0 + (Int.toNat x8)) (List.take (List.length (List.drop (Int.toNat x8) (List.take (List.length x7) x7))) (List.drop 0 (List.take (Int.toNat x8) x7))) x7) (IntKind.wrap IntKind.i64 (x8 + (((List.length (List.drop (Int.toNat x8) (List.take (List.length x7) x7))) : Nat) : Int))))))
        (none))
       (none))
      (none))
     (none))
    (none))
   (none))
  (hx.1 (d_slices_Repeat_Sint64_int64_9_0 x7))
def t_slices_Repeat_Sint64_int64_9 {R : Type} (nx : s_slices_Repeat_Sint64_int64_9.T → Option R) (hx : exH R x_slices_Repeat_Sint64_int64_9) (z : s_slices_Repeat_Sint64_int64_9.T) : Option R := u_slices_Repeat_Sint64_int64_9 nx hx z.1.1.1 z.1.2.1.1
theorem nat_slices_Repeat_Sint64_int64_9 : Natural @t_slices_Repeat_Sint64_int64_9 := fun R nx hx z => by
  show u_slices_Repeat_Sint64_int64_9 nx hx z.1.1.1 z.1.2.1.1 = (u_slices_Repeat_Sint64_int64_9 (fun y => some (.inl y)) (hIn x_slices_Repeat_Sint64_int64_9 fun x => some (.inr x)) z.1.1.1 z.1.2.1.1).bind (goOn nx hx)
  unfold u_slices_Repeat_Sint64_int64_9
  exact nat_cond (nat_cond (nat_cond (nat_cond (nat_cond (nat_cond (nat_cond (nat_cond (rfl) (rfl)) (rfl)) (rfl)) (rfl)) (rfl)) (rfl)) (rfl)) (rfl)
def w_slices_Repeat_Sint64_int64_9 : s_slices_Repeat_Sint64_int64_9.T → Option (exT x_slices_Repeat_Sint64_int64_9) := wOf @t_slices_Repeat_Sint64_int64_9
theorem wq_slices_Repeat_Sint64_int64_9 x7 x8 : w_slices_Repeat_Sint64_int64_9 (m_slices_Repeat_Sint64_int64_9 x7 x8) = u_slices_Repeat_Sint64_int64_9 w_slices_Repeat_Sint64_int64_9 (hIn x_slices_Repeat_Sint64_int64_9 some) x7 x8 := wOf_eq nat_slices_Repeat_Sint64_int64_9 _
def lh_slices_Repeat_Sint64_int64_9 : LoopHint := ⟨[7, 8], [], [7], []⟩
def h_slices_Repeat_Sint64_int64 : Hints Rv := ⟨fun k => match k with | 9 => lh_slices_Repeat_Sint64_int64_9 | _ => ⟨[], [], [], []⟩, fun k => match k with | 9 => some (loopX s_slices_Repeat_Sint64_int64_9 x_slices_Repeat_Sint64_int64_9 w_slices_Repeat_Sint64_int64_9) | _ => none⟩
theorem st_slices_Repeat_Sint64_int64_9 (n : Nat) (z : s_slices_Repeat_Sint64_int64_9.T) (k : Ex → Live → Option Rv) : loopN ⟨48, 48⟩ lh_slices_Repeat_Sint64_int64_9 (den (tab C0 T_slices_Repeat_Sint64_int64) ⟨48, 48⟩ h_slices_Repeat_Sint64_int64 1 (loopOf Try.f60 8)) (n + 1) (s_slices_Repeat_Sint64_int64_9.enc z) k =
    t_slices_Repeat_Sint64_int64_9 (fun y => loopN ⟨48, 48⟩ lh_slices_Repeat_Sint64_int64_9 (den (tab C0 T_slices_Repeat_Sint64_int64) ⟨48, 48⟩ h_slices_Repeat_Sint64_int64 1 (loopOf Try.f60 8)) n (s_slices_Repeat_Sint64_int64_9.enc y) k) (hK k x_slices_Repeat_Sint64_int64_9) z := by kernel_rfl
theorem hs_slices_Repeat_Sint64_int64 : HintsOk (tab C0 T_slices_Repeat_Sint64_int64) ⟨48, 48⟩ h_slices_Repeat_Sint64_int64 1 (loops (codeOf Try.f60)) := by
  have hl : loops (codeOf Try.f60) = [loopOf Try.f60 8] := by kernel_rfl
  rw [hl]
  exact HintsOk.cons (n := 9) (lh := lh_slices_Repeat_Sint64_int64_9) (S := loopX s_slices_Repeat_Sint64_int64_9 x_slices_Repeat_Sint64_int64_9 w_slices_Repeat_Sint64_int64_9) (by kernel_rfl) rfl rfl (loopX_ok nat_slices_Repeat_Sint64_int64_9 st_slices_Repeat_Sint64_int64_9)
    (HintsOk.nil)
def t_slices_Repeat_Sint64_int64 {R : Type} (kx : (List Int) → Option R) (a0 : (List Int)) (a1 : Int) : Option R :=
  cond (decide (a1 < (0 : Int)))
  (none)
  (Option.bind (g_math_bits_Mul (IntKind.wrap IntKind.u64 (((List.length a0) : Nat) : Int)) (IntKind.wrap IntKind.u64 a1)) fun y407 =>
   cond (decide (y407.1 > (0 : Int)))
   (none)
   (cond (decide (y407.2 > (9223372036854775807 : Int)))
    (none)
    (cond (decide ((0 : Int) ≤ (IntKind.wrap IntKind.i64 y407.2)))
     (cond (decide ((IntKind.wrap IntKind.i64 y407.2) ≤ (IntKind.wrap IntKind.i64 y407.2)))
      (cond (decide (((IntKind.wrap IntKind.i64 y407.2) * ((8 : Nat) : Int)) ≤ (70368744177664 : Int)))
       (cond (decide ((IntKind.wrap IntKind.i64 y407.2) ≤ (70368744177664 : Int)))
        (cond (decide ((List.length a0) ≤ (List.length (List.replicate (Int.toNat (IntKind.wrap IntKind.i64 y407.2)) (0 : Int)))))
         (Option.bind (w_slices_Repeat_Sint64_int64_9 (m_slices_Repeat_Sint64_int64_9 (overL 0 0 a0 (List.replicate (Int.toNat (IntKind.wrap IntKind.i64 y407.2)) (0 : Int))) (((List.length a0) : Nat) : Int))) (exC x_slices_Repeat_Sint64_int64_9
          (fun e410 =>
           kx (e410.1.1.1 : List Int), ())))
         (Option.bind (w_slices_Repeat_Sint64_int64_9 (m_slices_Repeat_Sint64_int64_9 (overL 0 0 (List.take (List.length (List.replicate (Int.toNat (IntKind.wrap IntKind.i64 y407.2)) (0 : Int))) a0) (List.replicate (Int.toNat (IntKind.wrap IntKind.i64 y407.2)) (0 : Int))) (((List.length (List.replicate (Int.toNat (IntKind.wrap IntKind.i64 y407.2)) (0 : Int))) : Nat) : Int))) (exC x_slices_Repeat_Sint64_int64_9
          (fun e412 =>
           kx (e412.1.1.1 : List Int), ()))))
        (none))
       (none))
      (none))
     (none))))
def g_slices_Repeat_Sint64_int64 (a0 : (List Int)) (a1 : Int) : Option ((List Int)) := t_slices_Repeat_Sint64_int64 some a0 a1
theorem nat_slices_Repeat_Sint64_int64 {R} kx a0 a1 : @t_slices_Repeat_Sint64_int64 R kx a0 a1 = (g_slices_Repeat_Sint64_int64 a0 a1).bind kx := by
  unfold g_slices_Repeat_Sint64_int64 t_slices_Repeat_Sint64_int64
  exact nat_cond (rfl) (nat_bind fun _ => nat_cond (rfl) (nat_cond (rfl) (nat_cond (nat_cond (nat_cond (nat_cond (nat_cond (nat_exC ⟨fun _ => rfl, trivial⟩) (nat_exC ⟨fun _ => rfl, trivial⟩)) (rfl)) (rfl)) (rfl)) (rfl))))
abbrev k_slices_Repeat_Sint64_int64 : Contract := .fx [.val false (.slice (.int .i64)), .val false (.int .i64)] ((List Int)) (fun z => g_slices_Repeat_Sint64_int64 z.1 z.2.1) (fun b => (.one ⟨false, [(.own (.int .i64) b)]⟩, []))
theorem so_slices_Repeat_Sint64_int64 : Sound C0 60 k_slices_Repeat_Sint64_int64 :=
  Sound.fx (e := false) (t := T_slices_Repeat_Sint64_int64) (.cons so_math_bits_Mul (.nil)) mixed Try.func60 (by kernel_rfl) (by kernel_rfl) h_slices_Repeat_Sint64_int64 1 hs_slices_Repeat_Sint64_int64 (fun z => (by kernel_rfl : _ = t_slices_Repeat_Sint64_int64 (fun b => some (k_slices_Repeat_Sint64_int64.enc b)) z.1 z.2.1).trans (nat_slices_Repeat_Sint64_int64 _ z.1 z.2.1))

/-! ### F98 impl.places -/
def T_impl_places : List (FuncId × Contract) := []
abbrev s_impl_places_5 : LS := ⟨[(false, [(.own (.int .i64))]), (false, [(.int .i64)]), (false, [(.sl (.int .i64))]), (false, [(.int .i64)]), (false, [(.int .i64)])], [], []⟩
abbrev e_impl_places_5_0 : LS := ⟨[(false, [(.own (.int .i64))])], [], []⟩
abbrev d_impl_places_5_0 (v0 : List Int) := ((((v0, ()), ()), (), ()) : e_impl_places_5_0.T)
abbrev x_impl_places_5 : List (Ex × LS) := [(.exit 0, e_impl_places_5_0)]
abbrev m_impl_places_5 (x3 : List Int) (x4 : Int) (x7 : List Int) (x8 : Int) (x9 : Int) := ((((x3, ()), (x4, ()), (x7, ()), (x8, ()), (x9, ()), ()), (), ()) : s_impl_places_5.T)
def u_impl_places_5 {R : Type} (nx : s_impl_places_5.T → Option R) (hx : exH R x_impl_places_5) (x3 : List Int) (x4 : Int) (x7 : List Int) (x8 : Int) (x9 : Int) : Option R :=
  cond (decide (x9 < x8))
  (Option.bind (idx x7 x9) fun y426 =>
   cond (decide ((((List.length x3) + (List.length [x4])) * 8) ≤ 70368744177664))
   (cond (decide (((List.length x3) + (List.length [x4])) ≤ 70368744177664))
    (cond ((Int.tmod x9 (2 : Int)) == (0 : Int))
     (nx (m_impl_places_5 (x3 ++ [x4]) (IntKind.wrap IntKind.i64 (x4 + y426)) x7 x8 (IntKind.wrap IntKind.i64 (x9 + (1 : Int)))))
     (nx (m_impl_places_5 (x3 ++ [x4]) (IntKind.wrap IntKind.i64 (x4 - y426)) x7 x8 (IntKind.wrap IntKind.i64 (x9 + (1 : Int))))))
    (none))
   (none))
  (hx.1 (d_impl_places_5_0 x3))
def t_impl_places_5 {R : Type} (nx : s_impl_places_5.T → Option R) (hx : exH R x_impl_places_5) (z : s_impl_places_5.T) : Option R := u_impl_places_5 nx hx z.1.1.1 z.1.2.1.1 z.1.2.2.1.1 z.1.2.2.2.1.1 z.1.2.2.2.2.1.1
theorem nat_impl_places_5 : Natural @t_impl_places_5 := fun R nx hx z => by
  show u_impl_places_5 nx hx z.1.1.1 z.1.2.1.1 z.1.2.2.1.1 z.1.2.2.2.1.1 z.1.2.2.2.2.1.1 = (u_impl_places_5 (fun y => some (.inl y)) (hIn x_impl_places_5 fun x => some (.inr x)) z.1.1.1 z.1.2.1.1 z.1.2.2.1.1 z.1.2.2.2.1.1 z.1.2.2.2.2.1.1).bind (goOn nx hx)
  unfold u_impl_places_5
  exact nat_cond (nat_bind fun _ => nat_cond (nat_cond (nat_cond (rfl) (rfl)) (rfl)) (rfl)) (rfl)
def w_impl_places_5 : s_impl_places_5.T → Option (exT x_impl_places_5) := wOf @t_impl_places_5
theorem wq_impl_places_5 x3 x4 x7 x8 x9 : w_impl_places_5 (m_impl_places_5 x3 x4 x7 x8 x9) = u_impl_places_5 w_impl_places_5 (hIn x_impl_places_5 some) x3 x4 x7 x8 x9 := wOf_eq nat_impl_places_5 _
def lh_impl_places_5 : LoopHint := ⟨[3, 4, 7, 8, 9], [], [3], []⟩
def h_impl_places : Hints Rv := ⟨fun k => match k with | 5 => lh_impl_places_5 | _ => ⟨[], [], [], []⟩, fun k => match k with | 5 => some (loopX s_impl_places_5 x_impl_places_5 w_impl_places_5) | _ => none⟩
theorem st_impl_places_5 (n : Nat) (z : s_impl_places_5.T) (k : Ex → Live → Option Rv) : loopN ⟨29, 29⟩ lh_impl_places_5 (den (tab C0 T_impl_places) ⟨29, 29⟩ h_impl_places 1 (loopOf Try.f98 4)) (n + 1) (s_impl_places_5.enc z) k =
    t_impl_places_5 (fun y => loopN ⟨29, 29⟩ lh_impl_places_5 (den (tab C0 T_impl_places) ⟨29, 29⟩ h_impl_places 1 (loopOf Try.f98 4)) n (s_impl_places_5.enc y) k) (hK k x_impl_places_5) z := by kernel_rfl
theorem hs_impl_places : HintsOk (tab C0 T_impl_places) ⟨29, 29⟩ h_impl_places 1 (loops (codeOf Try.f98)) := by
  have hl : loops (codeOf Try.f98) = [loopOf Try.f98 4] := by kernel_rfl
  rw [hl]
  exact HintsOk.cons (n := 5) (lh := lh_impl_places_5) (S := loopX s_impl_places_5 x_impl_places_5 w_impl_places_5) (by kernel_rfl) rfl rfl (loopX_ok nat_impl_places_5 st_impl_places_5)
    (HintsOk.nil)
def t_impl_places {R : Type} (kx : (List Int) → Option R) (a0 : (List Int)) : Option R :=
  Option.bind (w_impl_places_5 (m_impl_places_5 [] (0 : Int) a0 (((List.length a0) : Nat) : Int) (0 : Int))) (exC x_impl_places_5
  (fun e427 =>
   kx (e427.1.1.1 : List Int), ()))
def g_impl_places (a0 : (List Int)) : Option ((List Int)) := t_impl_places some a0
theorem nat_impl_places {R} kx a0 : @t_impl_places R kx a0 = (g_impl_places a0).bind kx := by
  unfold g_impl_places t_impl_places
  exact nat_exC ⟨fun _ => rfl, trivial⟩
abbrev k_impl_places : Contract := .fx [.val false (.slice (.int .i64))] ((List Int)) (fun z => g_impl_places z.1) (fun b => (.one ⟨false, [(.own (.int .i64) b)]⟩, []))
theorem so_impl_places : Sound C0 98 k_impl_places :=
  Sound.fx (e := false) (t := T_impl_places) (.nil) mixed Try.func98 (by kernel_rfl) (by kernel_rfl) h_impl_places 1 hs_impl_places (fun z => (by kernel_rfl : _ = t_impl_places (fun b => some (k_impl_places.enc b)) z.1).trans (nat_impl_places _ z.1))

/-! ### F61 impl.newCone -/
def T_impl_newCone : List (FuncId × Contract) := [(98, k_impl_places)]
abbrev s_impl_newCone_4 : LS := ⟨[(false, [(.ptr 15 0)]), (false, [(.view (.cell 15 1) true 0 (.int .i64))]), (false, [(.int .i64)]), (false, [(.int .i64)])], [(false, [(.int .i64), (.own (.int .i64)), (.own (.pair (.int .i64) (.int .i64))), (.sl (.int .i64))])], []⟩
abbrev e_impl_newCone_4_0 : LS := ⟨[(false, [(.ptr 15 0)])], [(false, [(.int .i64), (.own (.int .i64)), (.own (.pair (.int .i64) (.int .i64))), (.sl (.int .i64))])], []⟩
abbrev d_impl_newCone_4_0 (v0 : Int) (v1 : List Int) (v2 : List (Int × Int)) (v3 : List Int) := (((((), ()), ()), ((v0, v1, v2, v3, ()), ()), ()) : e_impl_newCone_4_0.T)
abbrev x_impl_newCone_4 : List (Ex × LS) := [(.exit 0, e_impl_newCone_4_0)]
abbrev m_impl_newCone_4 (x19 : List Int) (x20 : Int) (x21 : Int) (b0_0 : Int) (b0_1 : List Int) (b0_2 : List (Int × Int)) (b0_3 : List Int) := (((((), ()), (x19, ()), (x20, ()), (x21, ()), ()), ((b0_0, b0_1, b0_2, b0_3, ()), ()), ()) : s_impl_newCone_4.T)
def u_impl_newCone_4 {R : Type} (nx : s_impl_newCone_4.T → Option R) (hx : exH R x_impl_newCone_4) (x19 : List Int) (x20 : Int) (x21 : Int) (b0_0 : Int) (b0_1 : List Int) (b0_2 : List (Int × Int)) (b0_3 : List Int) : Option R :=
  cond (decide (x21 < x20))
  (Option.bind (idx x19 x21) fun y437 =>
   cond (decide (b0_0 = (0 : Int)))
   (none)
   (Option.bind (idx b0_1 (Int.tmod (IntKind.wrap IntKind.i64 (x21 + (1 : Int))) b0_0)) fun y438 =>
    cond (decide ((((List.length b0_2) + (List.length [((if (Bool.false = Bool.true) then (if (y438 > y437) then y438 else y437) else (if (y438 < y437) then y438 else y437)), (if (Bool.true = Bool.true) then (if (y438 > y437) then y438 else y437) else (if (y438 < y437) then y438 else y437)))])) * 16) ≤ 70368744177664))
    (cond (decide (((List.length b0_2) + (List.length [((if (Bool.false = Bool.true) then (if (y438 > y437) then y438 else y437) else (if (y438 < y437) then y438 else y437)), (if (Bool.true = Bool.true) then (if (y438 > y437) then y438 else y437) else (if (y438 < y437) then y438 else y437)))])) ≤ 70368744177664))
     (nx (m_impl_newCone_4 x19 x20 (IntKind.wrap IntKind.i64 (x21 + (1 : Int))) b0_0 b0_1 (b0_2 ++ [((if (Bool.false = Bool.true) then (if (y438 > y437) then y438 else y437) else (if (y438 < y437) then y438 else y437)), (if (Bool.true = Bool.true) then (if (y438 > y437) then y438 else y437) else (if (y438 < y437) then y438 else y437)))]) b0_3))
     (none))
    (none)))
  (hx.1 (d_impl_newCone_4_0 b0_0 b0_1 b0_2 b0_3))
def t_impl_newCone_4 {R : Type} (nx : s_impl_newCone_4.T → Option R) (hx : exH R x_impl_newCone_4) (z : s_impl_newCone_4.T) : Option R := u_impl_newCone_4 nx hx z.1.2.1.1 z.1.2.2.1.1 z.1.2.2.2.1.1 z.2.1.1.1 z.2.1.1.2.1 z.2.1.1.2.2.1 z.2.1.1.2.2.2.1
theorem nat_impl_newCone_4 : Natural @t_impl_newCone_4 := fun R nx hx z => by
  show u_impl_newCone_4 nx hx z.1.2.1.1 z.1.2.2.1.1 z.1.2.2.2.1.1 z.2.1.1.1 z.2.1.1.2.1 z.2.1.1.2.2.1 z.2.1.1.2.2.2.1 = (u_impl_newCone_4 (fun y => some (.inl y)) (hIn x_impl_newCone_4 fun x => some (.inr x)) z.1.2.1.1 z.1.2.2.1.1 z.1.2.2.2.1.1 z.2.1.1.1 z.2.1.1.2.1 z.2.1.1.2.2.1 z.2.1.1.2.2.2.1).bind (goOn nx hx)
  unfold u_impl_newCone_4
  exact nat_cond (nat_bind fun _ => nat_cond (rfl) (nat_bind fun _ => nat_cond (nat_cond (rfl) (rfl)) (rfl))) (rfl)
def w_impl_newCone_4 : s_impl_newCone_4.T → Option (exT x_impl_newCone_4) := wOf @t_impl_newCone_4
theorem wq_impl_newCone_4 x19 x20 x21 b0_0 b0_1 b0_2 b0_3 : w_impl_newCone_4 (m_impl_newCone_4 x19 x20 x21 b0_0 b0_1 b0_2 b0_3) = u_impl_newCone_4 w_impl_newCone_4 (hIn x_impl_newCone_4 some) x19 x20 x21 b0_0 b0_1 b0_2 b0_3 := wOf_eq nat_impl_newCone_4 _
def lh_impl_newCone_4 : LoopHint := ⟨[5, 19, 20, 21], [15], [5], [15]⟩
def h_impl_newCone : Hints Rv := ⟨fun k => match k with | 4 => lh_impl_newCone_4 | _ => ⟨[], [], [], []⟩, fun k => match k with | 4 => some (loopX s_impl_newCone_4 x_impl_newCone_4 w_impl_newCone_4) | _ => none⟩
theorem st_impl_newCone_4 (n : Nat) (z : s_impl_newCone_4.T) (k : Ex → Live → Option Rv) : loopN ⟨57, 57⟩ lh_impl_newCone_4 (den (tab C0 T_impl_newCone) ⟨57, 57⟩ h_impl_newCone 1 (loopOf Try.f61 3)) (n + 1) (s_impl_newCone_4.enc z) k =
    t_impl_newCone_4 (fun y => loopN ⟨57, 57⟩ lh_impl_newCone_4 (den (tab C0 T_impl_newCone) ⟨57, 57⟩ h_impl_newCone 1 (loopOf Try.f61 3)) n (s_impl_newCone_4.enc y) k) (hK k x_impl_newCone_4) z := by kernel_rfl
theorem hs_impl_newCone : HintsOk (tab C0 T_impl_newCone) ⟨57, 57⟩ h_impl_newCone 1 (loops (codeOf Try.f61)) := by
  have hl : loops (codeOf Try.f61) = [loopOf Try.f61 3] := by kernel_rfl
  rw [hl]
  exact HintsOk.cons (n := 4) (lh := lh_impl_newCone_4) (S := loopX s_impl_newCone_4 x_impl_newCone_4 w_impl_newCone_4) (by kernel_rfl) rfl rfl (loopX_ok nat_impl_newCone_4 st_impl_newCone_4)
    (HintsOk.nil)
def t_impl_newCone {R : Type} (kx : (Int × ((List Int) × ((List (Int × Int)) × (List Int)))) → Option R) (a0 : (List Int)) (a1 : (List Int)) : Option R :=
  Option.bind (g_impl_places a0) fun y429 =>
  Option.bind (w_impl_newCone_4 (m_impl_newCone_4 y429 (((List.length y429) : Nat) : Int) (0 : Int) (((List.length a0) : Nat) : Int) y429 [] a1)) (exC x_impl_newCone_4
  (fun e439 =>
   kx ((e439.2.1.1.1 : Int), ((e439.2.1.1.2.1 : List Int), ((e439.2.1.1.2.2.1 : List (Int × Int)), (e439.2.1.1.2.2.2.1 : List Int)))), ()))
def g_impl_newCone (a0 : (List Int)) (a1 : (List Int)) : Option ((Int × ((List Int) × ((List (Int × Int)) × (List Int))))) := t_impl_newCone some a0 a1
theorem nat_impl_newCone {R} kx a0 a1 : @t_impl_newCone R kx a0 a1 = (g_impl_newCone a0 a1).bind kx := by
  unfold g_impl_newCone t_impl_newCone
  exact nat_bind fun _ => nat_exC ⟨fun _ => rfl, trivial⟩
abbrev k_impl_newCone : Contract := .fx [.val false (.slice (.int .i64)), .val false (.slice (.int .i64))] ((Int × ((List Int) × ((List (Int × Int)) × (List Int))))) (fun z => g_impl_newCone z.1 z.2.1) (fun b => (.one ⟨false, [(.np [(.v (.int .i64 b.1)), (.own (.int .i64) b.2.1), (.own (.pair (.int .i64) (.int .i64)) b.2.2.1), (.sl (.int .i64) b.2.2.2)])]⟩, []))
theorem so_impl_newCone : Sound C0 61 k_impl_newCone :=
  Sound.fx (e := false) (t := T_impl_newCone) (.cons so_impl_places (.nil)) mixed Try.func61 (by kernel_rfl) (by kernel_rfl) h_impl_newCone 1 hs_impl_newCone (fun z => (by kernel_rfl : _ = t_impl_newCone (fun b => some (k_impl_newCone.enc b)) z.1 z.2.1).trans (nat_impl_newCone _ z.1 z.2.1))

/-! ### F100 (*impl.cone).above -/
def t_impl_cone_above {R : Type} (kx : Int → Option R) (a0 : (Int × ((List Int) × ((List (Int × Int)) × (List Int))))) (a1 : Int) (a2 : Int) : Option R :=
  Option.bind (idx a0.2.2.2 (IntKind.wrap IntKind.i64 ((IntKind.wrap IntKind.i64 (a1 * a0.1)) + a2))) fun y464 =>
  kx y464
def g_impl_cone_above (a0 : (Int × ((List Int) × ((List (Int × Int)) × (List Int))))) (a1 : Int) (a2 : Int) : Option (Int) := t_impl_cone_above some a0 a1 a2
theorem nat_impl_cone_above {R} kx a0 a1 a2 : @t_impl_cone_above R kx a0 a1 a2 = (g_impl_cone_above a0 a1 a2).bind kx := by
  unfold g_impl_cone_above t_impl_cone_above
  exact nat_bind fun _ => rfl
abbrev k_impl_cone_above : Contract := .fx [.ptr (.pair (.int .i64) (.pair (.slice (.int .i64)) (.pair (.slice (.pair (.int .i64) (.int .i64))) (.slice (.int .i64))))), .val false (.int .i64), .val false (.int .i64)] (Int) (fun z => g_impl_cone_above z.1 z.2.1 z.2.2.1) (fun b => (.one ⟨false, [(.v (.int .i64 b))]⟩, []))
theorem so_impl_cone_above : Sound C0 100 k_impl_cone_above :=
  Sound.fx (e := false) (.nil) mixed Try.func100 (by kernel_rfl) (by kernel_rfl) noHints 1 noHints_ok (fun z => (by kernel_rfl : _ = t_impl_cone_above (fun b => some (k_impl_cone_above.enc b)) z.1 z.2.1 z.2.2.1).trans (nat_impl_cone_above _ z.1 z.2.1 z.2.2.1))

/-! ### F118 (*impl.cone).overlap -/
def T_impl_cone_overlap : List (FuncId × Contract) := []
abbrev s_impl_cone_overlap_4 : LS := ⟨[(false, [(.ptr 59 0)]), (false, [(.int .i64)]), (false, [(.int .i64)]), (false, [(.sl (.int .i64))]), (false, [(.int .i64)]), (false, [(.int .i64)])], [(true, [(.int .i64), (.sl (.int .i64)), (.sl (.pair (.int .i64) (.int .i64))), (.sl (.int .i64))])], []⟩
abbrev e_impl_cone_overlap_4_0 : LS := ⟨[(false, [(.int .i64)]), (false, [(.int .i64)])], [], []⟩
abbrev d_impl_cone_overlap_4_0 (v0 : Int) (v1 : Int) := ((((v0, ()), (v1, ()), ()), (), ()) : e_impl_cone_overlap_4_0.T)
abbrev x_impl_cone_overlap_4 : List (Ex × LS) := [(.exit 0, e_impl_cone_overlap_4_0)]
abbrev m_impl_cone_overlap_4 (x5 : Int) (x6 : Int) (x29 : List Int) (x30 : Int) (x31 : Int) (b0_0 : Int) (b0_1 : List Int) (b0_2 : List (Int × Int)) (b0_3 : List Int) := (((((), ()), (x5, ()), (x6, ()), (x29, ()), (x30, ()), (x31, ()), ()), ((b0_0, b0_1, b0_2, b0_3, ()), ()), ()) : s_impl_cone_overlap_4.T)
def u_impl_cone_overlap_4 {R : Type} (nx : s_impl_cone_overlap_4.T → Option R) (hx : exH R x_impl_cone_overlap_4) (x5 : Int) (x6 : Int) (x29 : List Int) (x30 : Int) (x31 : Int) (b0_0 : Int) (b0_1 : List Int) (b0_2 : List (Int × Int)) (b0_3 : List Int) : Option R :=
  cond (decide (x31 < x30))
  (Option.bind (idx x29 x31) fun y483 =>
   Option.bind (idx b0_2 y483) fun y484 =>
   Option.bind (idx b0_2 y483) fun y485 =>
   nx (m_impl_cone_overlap_4 (if (Bool.true = Bool.true) then (if (y484.1 > x5) then y484.1 else x5) else (if (y484.1 < x5) then y484.1 else x5)) (if (Bool.false = Bool.true) then (if (y485.2 > x6) then y485.2 else x6) else (if (y485.2 < x6) then y485.2 else x6)) x29 x30 (IntKind.wrap IntKind.i64 (x31 + (1 : Int))) b0_0 b0_1 b0_2 b0_3))
  (hx.1 (d_impl_cone_overlap_4_0 x5 x6))
def t_impl_cone_overlap_4 {R : Type} (nx : s_impl_cone_overlap_4.T → Option R) (hx : exH R x_impl_cone_overlap_4) (z : s_impl_cone_overlap_4.T) : Option R := u_impl_cone_overlap_4 nx hx z.1.2.1.1 z.1.2.2.1.1 z.1.2.2.2.1.1 z.1.2.2.2.2.1.1 z.1.2.2.2.2.2.1.1 z.2.1.1.1 z.2.1.1.2.1 z.2.1.1.2.2.1 z.2.1.1.2.2.2.1
theorem nat_impl_cone_overlap_4 : Natural @t_impl_cone_overlap_4 := fun R nx hx z => by
  show u_impl_cone_overlap_4 nx hx z.1.2.1.1 z.1.2.2.1.1 z.1.2.2.2.1.1 z.1.2.2.2.2.1.1 z.1.2.2.2.2.2.1.1 z.2.1.1.1 z.2.1.1.2.1 z.2.1.1.2.2.1 z.2.1.1.2.2.2.1 = (u_impl_cone_overlap_4 (fun y => some (.inl y)) (hIn x_impl_cone_overlap_4 fun x => some (.inr x)) z.1.2.1.1 z.1.2.2.1.1 z.1.2.2.2.1.1 z.1.2.2.2.2.1.1 z.1.2.2.2.2.2.1.1 z.2.1.1.1 z.2.1.1.2.1 z.2.1.1.2.2.1 z.2.1.1.2.2.2.1).bind (goOn nx hx)
  unfold u_impl_cone_overlap_4
  exact nat_cond (nat_bind fun _ => nat_bind fun _ => nat_bind fun _ => rfl) (rfl)
def w_impl_cone_overlap_4 : s_impl_cone_overlap_4.T → Option (exT x_impl_cone_overlap_4) := wOf @t_impl_cone_overlap_4
theorem wq_impl_cone_overlap_4 x5 x6 x29 x30 x31 b0_0 b0_1 b0_2 b0_3 : w_impl_cone_overlap_4 (m_impl_cone_overlap_4 x5 x6 x29 x30 x31 b0_0 b0_1 b0_2 b0_3) = u_impl_cone_overlap_4 w_impl_cone_overlap_4 (hIn x_impl_cone_overlap_4 some) x5 x6 x29 x30 x31 b0_0 b0_1 b0_2 b0_3 := wOf_eq nat_impl_cone_overlap_4 _
def lh_impl_cone_overlap_4 : LoopHint := ⟨[0, 5, 6, 29, 30, 31], [59], [5, 6], []⟩
def h_impl_cone_overlap : Hints Rv := ⟨fun k => match k with | 4 => lh_impl_cone_overlap_4 | _ => ⟨[], [], [], []⟩, fun k => match k with | 4 => some (loopX s_impl_cone_overlap_4 x_impl_cone_overlap_4 w_impl_cone_overlap_4) | _ => none⟩
theorem st_impl_cone_overlap_4 (n : Nat) (z : s_impl_cone_overlap_4.T) (k : Ex → Live → Option Rv) : loopN ⟨59, 60⟩ lh_impl_cone_overlap_4 (den (tab C0 T_impl_cone_overlap) ⟨59, 60⟩ h_impl_cone_overlap 1 (loopOf Try.f118 3)) (n + 1) (s_impl_cone_overlap_4.enc z) k =
    t_impl_cone_overlap_4 (fun y => loopN ⟨59, 60⟩ lh_impl_cone_overlap_4 (den (tab C0 T_impl_cone_overlap) ⟨59, 60⟩ h_impl_cone_overlap 1 (loopOf Try.f118 3)) n (s_impl_cone_overlap_4.enc y) k) (hK k x_impl_cone_overlap_4) z := by kernel_rfl
theorem hs_impl_cone_overlap : HintsOk (tab C0 T_impl_cone_overlap) ⟨59, 60⟩ h_impl_cone_overlap 1 (loops (codeOf Try.f118)) := by
  have hl : loops (codeOf Try.f118) = [loopOf Try.f118 3] := by kernel_rfl
  rw [hl]
  exact HintsOk.cons (n := 4) (lh := lh_impl_cone_overlap_4) (S := loopX s_impl_cone_overlap_4 x_impl_cone_overlap_4 w_impl_cone_overlap_4) (by kernel_rfl) rfl rfl (loopX_ok nat_impl_cone_overlap_4 st_impl_cone_overlap_4)
    (HintsOk.nil)
def t_impl_cone_overlap {R : Type} (kx : Bool → Option R) (a0 : (Int × ((List Int) × ((List (Int × Int)) × (List Int))))) (a1 : (List Int)) : Option R :=
  Option.bind (idx a1 (0 : Int)) fun y470 =>
  Option.bind (idx a0.2.2.1 y470) fun y471 =>
  Option.bind (idx a1 (0 : Int)) fun y472 =>
  Option.bind (idx a0.2.2.1 y472) fun y473 =>
  Option.bind (w_impl_cone_overlap_4 (m_impl_cone_overlap_4 y471.1 y473.2 a1 (((List.length a1) : Nat) : Int) (0 : Int) a0.1 a0.2.1 a0.2.2.1 a0.2.2.2)) (exC x_impl_cone_overlap_4
  (fun e486 =>
   kx (decide ((e486.1.1.1 : Int) < (e486.1.2.1.1 : Int))), ()))
def g_impl_cone_overlap (a0 : (Int × ((List Int) × ((List (Int × Int)) × (List Int))))) (a1 : (List Int)) : Option (Bool) := t_impl_cone_overlap some a0 a1
theorem nat_impl_cone_overlap {R} kx a0 a1 : @t_impl_cone_overlap R kx a0 a1 = (g_impl_cone_overlap a0 a1).bind kx := by
  unfold g_impl_cone_overlap t_impl_cone_overlap
  exact nat_bind fun _ => nat_bind fun _ => nat_bind fun _ => nat_bind fun _ => nat_exC ⟨fun _ => rfl, trivial⟩
abbrev k_impl_cone_overlap : Contract := .fx [.ptr (.pair (.int .i64) (.pair (.slice (.int .i64)) (.pair (.slice (.pair (.int .i64) (.int .i64))) (.slice (.int .i64))))), .val false (.slice (.int .i64))] (Bool) (fun z => g_impl_cone_overlap z.1 z.2.1) (fun b => (.one ⟨false, [(.v (.bool b))]⟩, []))
theorem so_impl_cone_overlap : Sound C0 118 k_impl_cone_overlap :=
  Sound.fx (e := false) (t := T_impl_cone_overlap) (.nil) mixed Try.func118 (by kernel_rfl) (by kernel_rfl) h_impl_cone_overlap 1 hs_impl_cone_overlap (fun z => (by kernel_rfl : _ = t_impl_cone_overlap (fun b => some (k_impl_cone_overlap.enc b)) z.1 z.2.1).trans (nat_impl_cone_overlap _ z.1 z.2.1))

/-! ### F95 (*impl.cone).hasForm -/
def T_impl_cone_hasForm : List (FuncId × Contract) := [(100, k_impl_cone_above), (45, k_impl_within), (118, k_impl_cone_overlap)]
abbrev s_impl_cone_hasForm_8 : LS := ⟨[(false, [(.ptr 68 0)]), (false, [(.int .i64)]), (false, [(.int .i64)]), (false, [(.int .i64)]), (false, [(.int .i64)]), (false, [(.int .i64)])], [(true, [(.int .i64), (.sl (.int .i64)), (.sl (.pair (.int .i64) (.int .i64))), (.sl (.int .i64))])], []⟩
abbrev e_impl_cone_hasForm_8_0 : LS := ⟨[(false, [(.ptr 68 0)]), (false, [.bool]), (false, [(.int .i64)]), (false, [(.int .i64)])], [(true, [(.int .i64), (.sl (.int .i64)), (.sl (.pair (.int .i64) (.int .i64))), (.sl (.int .i64))])], []⟩
abbrev d_impl_cone_hasForm_8_0 (v0 : Bool) (v1 : Int) (v2 : Int) (v3 : Int) (v4 : List Int) (v5 : List (Int × Int)) (v6 : List Int) := (((((), ()), (v0, ()), (v1, ()), (v2, ()), ()), ((v3, v4, v5, v6, ()), ()), ()) : e_impl_cone_hasForm_8_0.T)
abbrev e_impl_cone_hasForm_8_1 : LS := ⟨[(false, [(.ptr 68 0)]), (false, [.undef]), (false, [(.int .i64)]), (false, [(.int .i64)])], [(true, [(.int .i64), (.sl (.int .i64)), (.sl (.pair (.int .i64) (.int .i64))), (.sl (.int .i64))])], []⟩
abbrev d_impl_cone_hasForm_8_1 (v0 : Int) (v1 : Int) (v2 : Int) (v3 : List Int) (v4 : List (Int × Int)) (v5 : List Int) := (((((), ()), ((), ()), (v0, ()), (v1, ()), ()), ((v2, v3, v4, v5, ()), ()), ()) : e_impl_cone_hasForm_8_1.T)
abbrev x_impl_cone_hasForm_8 : List (Ex × LS) := [(.ret, e_impl_cone_hasForm_8_0), (.exit 2, e_impl_cone_hasForm_8_1)]
abbrev m_impl_cone_hasForm_8 (x3 : Int) (x24 : Int) (x25 : Int) (x31 : Int) (x32 : Int) (b0_0 : Int) (b0_1 : List Int) (b0_2 : List (Int × Int)) (b0_3 : List Int) := (((((), ()), (x3, ()), (x24, ()), (x25, ()), (x31, ()), (x32, ()), ()), ((b0_0, b0_1, b0_2, b0_3, ()), ()), ()) : s_impl_cone_hasForm_8.T)
def u_impl_cone_hasForm_8 {R : Type} (nx : s_impl_cone_hasForm_8.T → Option R) (hx : exH R x_impl_cone_hasForm_8) (x3 : Int) (x24 : Int) (x25 : Int) (x31 : Int) (x32 : Int) (b0_0 : Int) (b0_1 : List Int) (b0_2 : List (Int × Int)) (b0_3 : List Int) : Option R :=
  cond (decide (x32 < x31))
  (Option.bind (g_impl_cone_above (b0_0, (b0_1, (b0_2, b0_3))) x3 x32) fun y465 =>
   Option.bind (g_impl_within y465 (-(1 : Int)) (1 : Int)) fun y466 =>
   cond (!y466)
   (hx.1 (d_impl_cone_hasForm_8_0 Bool.false x24 x25 b0_0 b0_1 b0_2 b0_3))
   (Option.bind (g_impl_cone_above (b0_0, (b0_1, (b0_2, b0_3))) x32 x3) fun y467 =>
    cond (y465 != (IntKind.wrap IntKind.i64 ((0 : Int) - y467)))
    (hx.1 (d_impl_cone_hasForm_8_0 Bool.false x24 x25 b0_0 b0_1 b0_2 b0_3))
    (cond (x3 != x32)
     (Option.bind (g_impl_cone_overlap (b0_0, (b0_1, (b0_2, b0_3))) [x3, x32]) fun y489 =>
      cond (!((y465 != (0 : Int)) == y489))
      (hx.1 (d_impl_cone_hasForm_8_0 Bool.false x24 x25 b0_0 b0_1 b0_2 b0_3))
      (nx (m_impl_cone_hasForm_8 x3 x24 x25 x31 (IntKind.wrap IntKind.i64 (x32 + (1 : Int))) b0_0 b0_1 b0_2 b0_3)))
     (cond (!((y465 != (0 : Int)) == Bool.false))
      (hx.1 (d_impl_cone_hasForm_8_0 Bool.false x24 x25 b0_0 b0_1 b0_2 b0_3))
      (nx (m_impl_cone_hasForm_8 x3 x24 x25 x31 (IntKind.wrap IntKind.i64 (x32 + (1 : Int))) b0_0 b0_1 b0_2 b0_3))))))
  (hx.2.1 (d_impl_cone_hasForm_8_1 x24 x25 b0_0 b0_1 b0_2 b0_3))
def t_impl_cone_hasForm_8 {R : Type} (nx : s_impl_cone_hasForm_8.T → Option R) (hx : exH R x_impl_cone_hasForm_8) (z : s_impl_cone_hasForm_8.T) : Option R := u_impl_cone_hasForm_8 nx hx z.1.2.1.1 z.1.2.2.1.1 z.1.2.2.2.1.1 z.1.2.2.2.2.1.1 z.1.2.2.2.2.2.1.1 z.2.1.1.1 z.2.1.1.2.1 z.2.1.1.2.2.1 z.2.1.1.2.2.2.1
theorem nat_impl_cone_hasForm_8 : Natural @t_impl_cone_hasForm_8 := fun R nx hx z => by
  show u_impl_cone_hasForm_8 nx hx z.1.2.1.1 z.1.2.2.1.1 z.1.2.2.2.1.1 z.1.2.2.2.2.1.1 z.1.2.2.2.2.2.1.1 z.2.1.1.1 z.2.1.1.2.1 z.2.1.1.2.2.1 z.2.1.1.2.2.2.1 = (u_impl_cone_hasForm_8 (fun y => some (.inl y)) (hIn x_impl_cone_hasForm_8 fun x => some (.inr x)) z.1.2.1.1 z.1.2.2.1.1 z.1.2.2.2.1.1 z.1.2.2.2.2.1.1 z.1.2.2.2.2.2.1.1 z.2.1.1.1 z.2.1.1.2.1 z.2.1.1.2.2.1 z.2.1.1.2.2.2.1).bind (goOn nx hx)
  unfold u_impl_cone_hasForm_8
  exact nat_cond (nat_bind fun _ => nat_bind fun _ => nat_cond (rfl) (nat_bind fun _ => nat_cond (rfl) (nat_cond (nat_bind fun _ => nat_cond (rfl) (rfl)) (nat_cond (rfl) (rfl))))) (rfl)
def w_impl_cone_hasForm_8 : s_impl_cone_hasForm_8.T → Option (exT x_impl_cone_hasForm_8) := wOf @t_impl_cone_hasForm_8
theorem wq_impl_cone_hasForm_8 x3 x24 x25 x31 x32 b0_0 b0_1 b0_2 b0_3 : w_impl_cone_hasForm_8 (m_impl_cone_hasForm_8 x3 x24 x25 x31 x32 b0_0 b0_1 b0_2 b0_3) = u_impl_cone_hasForm_8 w_impl_cone_hasForm_8 (hIn x_impl_cone_hasForm_8 some) x3 x24 x25 x31 x32 b0_0 b0_1 b0_2 b0_3 := wOf_eq nat_impl_cone_hasForm_8 _
def lh_impl_cone_hasForm_8 : LoopHint := ⟨[0, 3, 24, 25, 31, 32], [68], [0, 2, 24, 25], [68]⟩
abbrev s_impl_cone_hasForm_5 : LS := ⟨[(false, [(.ptr 68 0)]), (false, [(.int .i64)]), (false, [(.int .i64)])], [(true, [(.int .i64), (.sl (.int .i64)), (.sl (.pair (.int .i64) (.int .i64))), (.sl (.int .i64))])], []⟩
abbrev e_impl_cone_hasForm_5_0 : LS := ⟨[(false, [.bool])], [], []⟩
abbrev d_impl_cone_hasForm_5_0 (v0 : Bool) := ((((v0, ()), ()), (), ()) : e_impl_cone_hasForm_5_0.T)
abbrev e_impl_cone_hasForm_5_1 : LS := ⟨[(false, [.undef])], [], []⟩
abbrev d_impl_cone_hasForm_5_1 := (((((), ()), ()), (), ()) : e_impl_cone_hasForm_5_1.T)
abbrev x_impl_cone_hasForm_5 : List (Ex × LS) := [(.ret, e_impl_cone_hasForm_5_0), (.exit 0, e_impl_cone_hasForm_5_1)]
abbrev m_impl_cone_hasForm_5 (x24 : Int) (x25 : Int) (b0_0 : Int) (b0_1 : List Int) (b0_2 : List (Int × Int)) (b0_3 : List Int) := (((((), ()), (x24, ()), (x25, ()), ()), ((b0_0, b0_1, b0_2, b0_3, ()), ()), ()) : s_impl_cone_hasForm_5.T)
def u_impl_cone_hasForm_5 {R : Type} (nx : s_impl_cone_hasForm_5.T → Option R) (hx : exH R x_impl_cone_hasForm_5) (x24 : Int) (x25 : Int) (b0_0 : Int) (b0_1 : List Int) (b0_2 : List (Int × Int)) (b0_3 : List Int) : Option R :=
  cond (decide (x25 < x24))
  (Option.bind (w_impl_cone_hasForm_8 (m_impl_cone_hasForm_8 x25 x24 x25 b0_0 (0 : Int) b0_0 b0_1 b0_2 b0_3)) (exC x_impl_cone_hasForm_8
   (fun e490 =>
    hx.1 (d_impl_cone_hasForm_5_0 (e490.1.2.1.1 : Bool)), fun e498 =>
    nx (m_impl_cone_hasForm_5 (e498.1.2.2.1.1 : Int) (IntKind.wrap IntKind.i64 ((e498.1.2.2.2.1.1 : Int) + (1 : Int))) (e498.2.1.1.1 : Int) (e498.2.1.1.2.1 : List Int) (e498.2.1.1.2.2.1 : List (Int × Int)) (e498.2.1.1.2.2.2.1 : List Int)), ())))
  (hx.2.1 (d_impl_cone_hasForm_5_1))
def t_impl_cone_hasForm_5 {R : Type} (nx : s_impl_cone_hasForm_5.T → Option R) (hx : exH R x_impl_cone_hasForm_5) (z : s_impl_cone_hasForm_5.T) : Option R := u_impl_cone_hasForm_5 nx hx z.1.2.1.1 z.1.2.2.1.1 z.2.1.1.1 z.2.1.1.2.1 z.2.1.1.2.2.1 z.2.1.1.2.2.2.1
theorem nat_impl_cone_hasForm_5 : Natural @t_impl_cone_hasForm_5 := fun R nx hx z => by
  show u_impl_cone_hasForm_5 nx hx z.1.2.1.1 z.1.2.2.1.1 z.2.1.1.1 z.2.1.1.2.1 z.2.1.1.2.2.1 z.2.1.1.2.2.2.1 = (u_impl_cone_hasForm_5 (fun y => some (.inl y)) (hIn x_impl_cone_hasForm_5 fun x => some (.inr x)) z.1.2.1.1 z.1.2.2.1.1 z.2.1.1.1 z.2.1.1.2.1 z.2.1.1.2.2.1 z.2.1.1.2.2.2.1).bind (goOn nx hx)
  unfold u_impl_cone_hasForm_5
  exact nat_cond (nat_exC ⟨fun _ => rfl, fun _ => rfl, trivial⟩) (rfl)
def w_impl_cone_hasForm_5 : s_impl_cone_hasForm_5.T → Option (exT x_impl_cone_hasForm_5) := wOf @t_impl_cone_hasForm_5
theorem wq_impl_cone_hasForm_5 x24 x25 b0_0 b0_1 b0_2 b0_3 : w_impl_cone_hasForm_5 (m_impl_cone_hasForm_5 x24 x25 b0_0 b0_1 b0_2 b0_3) = u_impl_cone_hasForm_5 w_impl_cone_hasForm_5 (hIn x_impl_cone_hasForm_5 some) x24 x25 b0_0 b0_1 b0_2 b0_3 := wOf_eq nat_impl_cone_hasForm_5 _
def lh_impl_cone_hasForm_5 : LoopHint := ⟨[0, 24, 25], [68], [2], []⟩
def h_impl_cone_hasForm : Hints Rv := ⟨fun k => match k with | 8 => lh_impl_cone_hasForm_8 | 5 => lh_impl_cone_hasForm_5 | _ => ⟨[], [], [], []⟩, fun k => match k with | 8 => some (loopX s_impl_cone_hasForm_8 x_impl_cone_hasForm_8 w_impl_cone_hasForm_8) | 5 => some (loopX s_impl_cone_hasForm_5 x_impl_cone_hasForm_5 w_impl_cone_hasForm_5) | _ => none⟩
theorem st_impl_cone_hasForm_8 (n : Nat) (z : s_impl_cone_hasForm_8.T) (k : Ex → Live → Option Rv) : loopN ⟨68, 69⟩ lh_impl_cone_hasForm_8 (den (tab C0 T_impl_cone_hasForm) ⟨68, 69⟩ h_impl_cone_hasForm 1 (loopOf Try.f95 7)) (n + 1) (s_impl_cone_hasForm_8.enc z) k =
    t_impl_cone_hasForm_8 (fun y => loopN ⟨68, 69⟩ lh_impl_cone_hasForm_8 (den (tab C0 T_impl_cone_hasForm) ⟨68, 69⟩ h_impl_cone_hasForm 1 (loopOf Try.f95 7)) n (s_impl_cone_hasForm_8.enc y) k) (hK k x_impl_cone_hasForm_8) z := by kernel_rfl
theorem st_impl_cone_hasForm_5 (n : Nat) (z : s_impl_cone_hasForm_5.T) (k : Ex → Live → Option Rv) : loopN ⟨68, 69⟩ lh_impl_cone_hasForm_5 (den (tab C0 T_impl_cone_hasForm) ⟨68, 69⟩ h_impl_cone_hasForm 1 (loopOf Try.f95 4)) (n + 1) (s_impl_cone_hasForm_5.enc z) k =
    t_impl_cone_hasForm_5 (fun y => loopN ⟨68, 69⟩ lh_impl_cone_hasForm_5 (den (tab C0 T_impl_cone_hasForm) ⟨68, 69⟩ h_impl_cone_hasForm 1 (loopOf Try.f95 4)) n (s_impl_cone_hasForm_5.enc y) k) (hK k x_impl_cone_hasForm_5) z := by kernel_rfl
theorem hs_impl_cone_hasForm : HintsOk (tab C0 T_impl_cone_hasForm) ⟨68, 69⟩ h_impl_cone_hasForm 1 (loops (codeOf Try.f95)) := by
  have hl : loops (codeOf Try.f95) = [loopOf Try.f95 4, loopOf Try.f95 7] := by kernel_rfl
  rw [hl]
  exact HintsOk.cons (n := 5) (lh := lh_impl_cone_hasForm_5) (S := loopX s_impl_cone_hasForm_5 x_impl_cone_hasForm_5 w_impl_cone_hasForm_5) (by kernel_rfl) rfl rfl (loopX_ok nat_impl_cone_hasForm_5 st_impl_cone_hasForm_5)
    (HintsOk.cons (n := 8) (lh := lh_impl_cone_hasForm_8) (S := loopX s_impl_cone_hasForm_8 x_impl_cone_hasForm_8 w_impl_cone_hasForm_8) (by kernel_rfl) rfl rfl (loopX_ok nat_impl_cone_hasForm_8 st_impl_cone_hasForm_8)
    (HintsOk.nil))
def t_impl_cone_hasForm {R : Type} (kx : Bool → Option R) (a0 : (Int × ((List Int) × ((List (Int × Int)) × (List Int))))) : Option R :=
  cond ((((List.length a0.2.2.2) : Nat) : Int) != (IntKind.wrap IntKind.i64 (a0.1 * a0.1)))
  (kx Bool.false)
  (Option.bind (w_impl_cone_hasForm_5 (m_impl_cone_hasForm_5 a0.1 (0 : Int) a0.1 a0.2.1 a0.2.2.1 a0.2.2.2)) (exC x_impl_cone_hasForm_5
   (fun e505 =>
    kx (e505.1.1.1 : Bool), fun _ =>
    kx Bool.true, ())))
def g_impl_cone_hasForm (a0 : (Int × ((List Int) × ((List (Int × Int)) × (List Int))))) : Option (Bool) := t_impl_cone_hasForm some a0
theorem nat_impl_cone_hasForm {R} kx a0 : @t_impl_cone_hasForm R kx a0 = (g_impl_cone_hasForm a0).bind kx := by
  unfold g_impl_cone_hasForm t_impl_cone_hasForm
  exact nat_cond (rfl) (nat_exC ⟨fun _ => rfl, fun _ => rfl, trivial⟩)
abbrev k_impl_cone_hasForm : Contract := .fx [.ptr (.pair (.int .i64) (.pair (.slice (.int .i64)) (.pair (.slice (.pair (.int .i64) (.int .i64))) (.slice (.int .i64)))))] (Bool) (fun z => g_impl_cone_hasForm z.1) (fun b => (.one ⟨false, [(.v (.bool b))]⟩, []))
theorem so_impl_cone_hasForm : Sound C0 95 k_impl_cone_hasForm :=
  Sound.fx (e := false) (t := T_impl_cone_hasForm) (.cons so_impl_cone_above (.cons so_impl_within (.cons so_impl_cone_overlap (.nil)))) mixed Try.func95 (by kernel_rfl) (by kernel_rfl) h_impl_cone_hasForm 1 hs_impl_cone_hasForm (fun z => (by kernel_rfl : _ = t_impl_cone_hasForm (fun b => some (k_impl_cone_hasForm.enc b)) z.1).trans (nat_impl_cone_hasForm _ z.1))

/-! ### F99 (*impl.cone).beside -/
def t_impl_cone_beside {R : Type} (kx : Int × Int → Option R) (a0 : (Int × ((List Int) × ((List (Int × Int)) × (List Int))))) (a1 : Int) : Option R :=
  cond (decide (a0.1 = (0 : Int)))
  (none)
  (kx ((Int.tmod (IntKind.wrap IntKind.i64 ((IntKind.wrap IntKind.i64 (a1 + a0.1)) - (1 : Int))) a0.1), a1))
def g_impl_cone_beside (a0 : (Int × ((List Int) × ((List (Int × Int)) × (List Int))))) (a1 : Int) : Option (Int × Int) := t_impl_cone_beside some a0 a1
theorem nat_impl_cone_beside {R} kx a0 a1 : @t_impl_cone_beside R kx a0 a1 = (g_impl_cone_beside a0 a1).bind kx := by
  unfold g_impl_cone_beside t_impl_cone_beside
  exact nat_cond (rfl) (rfl)
abbrev k_impl_cone_beside : Contract := .fx [.ptr (.pair (.int .i64) (.pair (.slice (.int .i64)) (.pair (.slice (.pair (.int .i64) (.int .i64))) (.slice (.int .i64))))), .val false (.int .i64)] (Int × Int) (fun z => g_impl_cone_beside z.1 z.2.1) (fun b => (.tup [⟨false, [(.v (.int .i64 b.1))]⟩, ⟨false, [(.v (.int .i64 b.2))]⟩], []))
theorem so_impl_cone_beside : Sound C0 99 k_impl_cone_beside :=
  Sound.fx (e := false) (.nil) mixed Try.func99 (by kernel_rfl) (by kernel_rfl) noHints 1 noHints_ok (fun z => (by kernel_rfl : _ = t_impl_cone_beside (fun b => some (k_impl_cone_beside.enc b)) z.1 z.2.1).trans (nat_impl_cone_beside _ z.1 z.2.1))

/-! ### F62 (*impl.cone).kindOf -/
def t_impl_cone_kindOf {R : Type} (kx : Int → Option R) (a0 : (Int × ((List Int) × ((List (Int × Int)) × (List Int))))) (a1 : Int) : Option R :=
  Option.bind (g_impl_cone_beside a0 a1) fun y522 =>
  Option.bind (g_impl_cone_above a0 y522.1 y522.2) fun y523 =>
  cond ((Int.tmod y522.2 (2 : Int)) == (0 : Int))
  (cond ((IntKind.wrap IntKind.i64 ((0 : Int) - y523)) == (1 : Int))
   (kx (2 : Int))
   (cond ((IntKind.wrap IntKind.i64 ((0 : Int) - y523)) == (-(1 : Int)))
    (kx (3 : Int))
    (kx (0 : Int))))
  (cond (y523 == (1 : Int))
   (kx (2 : Int))
   (cond (y523 == (-(1 : Int)))
    (kx (3 : Int))
    (kx (0 : Int))))
def g_impl_cone_kindOf (a0 : (Int × ((List Int) × ((List (Int × Int)) × (List Int))))) (a1 : Int) : Option (Int) := t_impl_cone_kindOf some a0 a1
theorem nat_impl_cone_kindOf {R} kx a0 a1 : @t_impl_cone_kindOf R kx a0 a1 = (g_impl_cone_kindOf a0 a1).bind kx := by
  unfold g_impl_cone_kindOf t_impl_cone_kindOf
  exact nat_bind fun _ => nat_bind fun _ => nat_cond (nat_cond (rfl) (nat_cond (rfl) (rfl))) (nat_cond (rfl) (nat_cond (rfl) (rfl)))
abbrev k_impl_cone_kindOf : Contract := .fx [.ptr (.pair (.int .i64) (.pair (.slice (.int .i64)) (.pair (.slice (.pair (.int .i64) (.int .i64))) (.slice (.int .i64))))), .val false (.int .i64)] (Int) (fun z => g_impl_cone_kindOf z.1 z.2.1) (fun b => (.one ⟨false, [(.v (.int .i64 b))]⟩, []))
theorem so_impl_cone_kindOf : Sound C0 62 k_impl_cone_kindOf :=
  Sound.fx (e := false) (.cons so_impl_cone_beside (.cons so_impl_cone_above (.nil))) mixed Try.func62 (by kernel_rfl) (by kernel_rfl) noHints 1 noHints_ok (fun z => (by kernel_rfl : _ = t_impl_cone_kindOf (fun b => some (k_impl_cone_kindOf.enc b)) z.1 z.2.1).trans (nat_impl_cone_kindOf _ z.1 z.2.1))

/-! ### F127 (*impl.cone).isBetween -/
def t_impl_cone_isBetween {R : Type} (kx : Int → Option R) (a0 : (Int × ((List Int) × ((List (Int × Int)) × (List Int))))) (a1 : Int) (a2 : Int) (a3 : Int) : Option R :=
  Option.bind (g_impl_cone_above a0 a1 a2) fun y548 =>
  Option.bind (g_impl_cone_above a0 a1 a3) fun y549 =>
  kx (IntKind.wrap IntKind.i64 ((IntKind.wrap IntKind.i64 ((0 : Int) - y548)) * y549))
def g_impl_cone_isBetween (a0 : (Int × ((List Int) × ((List (Int × Int)) × (List Int))))) (a1 : Int) (a2 : Int) (a3 : Int) : Option (Int) := t_impl_cone_isBetween some a0 a1 a2 a3
theorem nat_impl_cone_isBetween {R} kx a0 a1 a2 a3 : @t_impl_cone_isBetween R kx a0 a1 a2 a3 = (g_impl_cone_isBetween a0 a1 a2 a3).bind kx := by
  unfold g_impl_cone_isBetween t_impl_cone_isBetween
  exact nat_bind fun _ => nat_bind fun _ => rfl
abbrev k_impl_cone_isBetween : Contract := .fx [.ptr (.pair (.int .i64) (.pair (.slice (.int .i64)) (.pair (.slice (.pair (.int .i64) (.int .i64))) (.slice (.int .i64))))), .val false (.int .i64), .val false (.int .i64), .val false (.int .i64)] (Int) (fun z => g_impl_cone_isBetween z.1 z.2.1 z.2.2.1 z.2.2.2.1) (fun b => (.one ⟨false, [(.v (.int .i64 b))]⟩, []))
theorem so_impl_cone_isBetween : Sound C0 127 k_impl_cone_isBetween :=
  Sound.fx (e := false) (.cons so_impl_cone_above (.nil)) mixed Try.func127 (by kernel_rfl) (by kernel_rfl) noHints 1 noHints_ok (fun z => (by kernel_rfl : _ = t_impl_cone_isBetween (fun b => some (k_impl_cone_isBetween.enc b)) z.1 z.2.1 z.2.2.1 z.2.2.2.1).trans (nat_impl_cone_isBetween _ z.1 z.2.1 z.2.2.1 z.2.2.2.1))

/-! ### F119 (*impl.cone).isThrough -/
def t_impl_cone_isThrough {R : Type} (kx : Bool → Option R) (a0 : (Int × ((List Int) × ((List (Int × Int)) × (List Int))))) (a1 : Int) (a2 : Int) : Option R :=
  Option.bind (g_impl_cone_beside a0 a2) fun y540 =>
  Option.bind (idx a0.2.1 a2) fun y541 =>
  Option.bind (idx a0.2.2.1 a1) fun y542 =>
  cond (decide (y542.1 < y541))
  (Option.bind (idx a0.2.2.1 a1) fun y543 =>
   cond (decide (y541 < y543.2))
   (Option.bind (g_impl_cone_isBetween a0 a1 y540.1 y540.2) fun y550 =>
    kx (decide (y550 > (0 : Int))))
   (kx Bool.false))
  (kx Bool.false)
def g_impl_cone_isThrough (a0 : (Int × ((List Int) × ((List (Int × Int)) × (List Int))))) (a1 : Int) (a2 : Int) : Option (Bool) := t_impl_cone_isThrough some a0 a1 a2
theorem nat_impl_cone_isThrough {R} kx a0 a1 a2 : @t_impl_cone_isThrough R kx a0 a1 a2 = (g_impl_cone_isThrough a0 a1 a2).bind kx := by
  unfold g_impl_cone_isThrough t_impl_cone_isThrough
  exact nat_bind fun _ => nat_bind fun _ => nat_bind fun _ => nat_cond (nat_bind fun _ => nat_cond (nat_bind fun _ => rfl) (rfl)) (rfl)
abbrev k_impl_cone_isThrough : Contract := .fx [.ptr (.pair (.int .i64) (.pair (.slice (.int .i64)) (.pair (.slice (.pair (.int .i64) (.int .i64))) (.slice (.int .i64))))), .val false (.int .i64), .val false (.int .i64)] (Bool) (fun z => g_impl_cone_isThrough z.1 z.2.1 z.2.2.1) (fun b => (.one ⟨false, [(.v (.bool b))]⟩, []))
theorem so_impl_cone_isThrough : Sound C0 119 k_impl_cone_isThrough :=
  Sound.fx (e := false) (.cons so_impl_cone_beside (.cons so_impl_cone_isBetween (.nil))) mixed Try.func119 (by kernel_rfl) (by kernel_rfl) noHints 1 noHints_ok (fun z => (by kernel_rfl : _ = t_impl_cone_isThrough (fun b => some (k_impl_cone_isThrough.enc b)) z.1 z.2.1 z.2.2.1).trans (nat_impl_cone_isThrough _ z.1 z.2.1 z.2.2.1))

/-! ### F120 (*impl.cone).isWoven -/
def t_impl_cone_isWoven {R : Type} (kx : Bool → Option R) (a0 : (Int × ((List Int) × ((List (Int × Int)) × (List Int))))) (a1 : Int) (a2 : Int) : Option R :=
  Option.bind (g_impl_cone_beside a0 a1) fun y555 =>
  Option.bind (g_impl_cone_beside a0 a2) fun y556 =>
  Option.bind (idx a0.2.1 a1) fun y557 =>
  Option.bind (idx a0.2.1 a2) fun y558 =>
  cond (y557 != y558)
  (kx Bool.false)
  (Option.bind (idx a0.2.2.1 y555.1) fun y559 =>
   Option.bind (idx a0.2.1 a1) fun y560 =>
   Option.bind (idx a0.2.2.1 y556.1) fun y561 =>
   Option.bind (idx a0.2.1 a2) fun y562 =>
   cond (!((y559.1 == y560) == (y561.1 == y562)))
   (kx Bool.false)
   (Option.bind (g_impl_cone_isBetween a0 y556.1 y555.1 y555.2) fun y563 =>
    Option.bind (g_impl_cone_isBetween a0 y556.2 y555.1 y555.2) fun y564 =>
    cond (decide ((IntKind.wrap IntKind.i64 (y563 * y564)) < (0 : Int)))
    (kx Bool.true)
    (Option.bind (g_impl_cone_isBetween a0 y555.1 y556.1 y556.2) fun y565 =>
     Option.bind (g_impl_cone_isBetween a0 y555.2 y556.1 y556.2) fun y566 =>
     kx (decide ((IntKind.wrap IntKind.i64 (y565 * y566)) < (0 : Int))))))
def g_impl_cone_isWoven (a0 : (Int × ((List Int) × ((List (Int × Int)) × (List Int))))) (a1 : Int) (a2 : Int) : Option (Bool) := t_impl_cone_isWoven some a0 a1 a2
theorem nat_impl_cone_isWoven {R} kx a0 a1 a2 : @t_impl_cone_isWoven R kx a0 a1 a2 = (g_impl_cone_isWoven a0 a1 a2).bind kx := by
  unfold g_impl_cone_isWoven t_impl_cone_isWoven
  exact nat_bind fun _ => nat_bind fun _ => nat_bind fun _ => nat_bind fun _ => nat_cond (rfl) (nat_bind fun _ => nat_bind fun _ => nat_bind fun _ => nat_bind fun _ => nat_cond (rfl) (nat_bind fun _ => nat_bind fun _ => nat_cond (rfl) (nat_bind fun _ => nat_bind fun _ => rfl)))
abbrev k_impl_cone_isWoven : Contract := .fx [.ptr (.pair (.int .i64) (.pair (.slice (.int .i64)) (.pair (.slice (.pair (.int .i64) (.int .i64))) (.slice (.int .i64))))), .val false (.int .i64), .val false (.int .i64)] (Bool) (fun z => g_impl_cone_isWoven z.1 z.2.1 z.2.2.1) (fun b => (.one ⟨false, [(.v (.bool b))]⟩, []))
theorem so_impl_cone_isWoven : Sound C0 120 k_impl_cone_isWoven :=
  Sound.fx (e := false) (.cons so_impl_cone_beside (.cons so_impl_cone_isBetween (.nil))) mixed Try.func120 (by kernel_rfl) (by kernel_rfl) noHints 1 noHints_ok (fun z => (by kernel_rfl : _ = t_impl_cone_isWoven (fun b => some (k_impl_cone_isWoven.enc b)) z.1 z.2.1 z.2.2.1).trans (nat_impl_cone_isWoven _ z.1 z.2.1 z.2.2.1))

/-! ### F121 (*impl.cone).isCycle -/
def t_impl_cone_isCycle {R : Type} (kx : Bool → Option R) (a0 : (Int × ((List Int) × ((List (Int × Int)) × (List Int))))) (a1 : Int) (a2 : Int) (a3 : Int) : Option R :=
  Option.bind (g_impl_cone_above a0 a1 a2) fun y585 =>
  cond (y585 != (0 : Int))
  (Option.bind (g_impl_cone_above a0 a2 a3) fun y586 =>
   cond (y586 == y585)
   (Option.bind (g_impl_cone_above a0 a3 a1) fun y587 =>
    cond (y587 == y585)
    (Option.bind (g_impl_cone_overlap a0 [a1, a2, a3]) fun y588 =>
     kx y588)
    (kx Bool.false))
   (kx Bool.false))
  (kx Bool.false)
def g_impl_cone_isCycle (a0 : (Int × ((List Int) × ((List (Int × Int)) × (List Int))))) (a1 : Int) (a2 : Int) (a3 : Int) : Option (Bool) := t_impl_cone_isCycle some a0 a1 a2 a3
theorem nat_impl_cone_isCycle {R} kx a0 a1 a2 a3 : @t_impl_cone_isCycle R kx a0 a1 a2 a3 = (g_impl_cone_isCycle a0 a1 a2 a3).bind kx := by
  unfold g_impl_cone_isCycle t_impl_cone_isCycle
  exact nat_bind fun _ => nat_cond (nat_bind fun _ => nat_cond (nat_bind fun _ => nat_cond (nat_bind fun _ => rfl) (rfl)) (rfl)) (rfl)
abbrev k_impl_cone_isCycle : Contract := .fx [.ptr (.pair (.int .i64) (.pair (.slice (.int .i64)) (.pair (.slice (.pair (.int .i64) (.int .i64))) (.slice (.int .i64))))), .val false (.int .i64), .val false (.int .i64), .val false (.int .i64)] (Bool) (fun z => g_impl_cone_isCycle z.1 z.2.1 z.2.2.1 z.2.2.2.1) (fun b => (.one ⟨false, [(.v (.bool b))]⟩, []))
theorem so_impl_cone_isCycle : Sound C0 121 k_impl_cone_isCycle :=
  Sound.fx (e := false) (.cons so_impl_cone_above (.cons so_impl_cone_overlap (.nil))) mixed Try.func121 (by kernel_rfl) (by kernel_rfl) noHints 1 noHints_ok (fun z => (by kernel_rfl : _ = t_impl_cone_isCycle (fun b => some (k_impl_cone_isCycle.enc b)) z.1 z.2.1 z.2.2.1 z.2.2.2.1).trans (nat_impl_cone_isCycle _ z.1 z.2.1 z.2.2.1 z.2.2.2.1))

/-! ### F96 (*impl.cone).isGood -/
def T_impl_cone_isGood : List (FuncId × Contract) := [(62, k_impl_cone_kindOf), (119, k_impl_cone_isThrough), (120, k_impl_cone_isWoven), (121, k_impl_cone_isCycle)]
abbrev s_impl_cone_isGood_14 : LS := ⟨[(false, [(.ptr 73 0)]), (false, [(.sl (.int .i64))]), (false, [(.int .i64)]), (false, [(.int .i64)]), (false, [(.int .i64)]), (false, [(.int .i64)]), (false, [(.int .i64)]), (false, [(.int .i64)]), (false, [(.int .i64)]), (false, [(.int .i64)])], [(true, [(.int .i64), (.sl (.int .i64)), (.sl (.pair (.int .i64) (.int .i64))), (.sl (.int .i64))])], []⟩
abbrev e_impl_cone_isGood_14_0 : LS := ⟨[(false, [(.ptr 73 0)]), (false, [(.sl (.int .i64))]), (false, [.bool]), (false, [(.int .i64)]), (false, [(.int .i64)]), (false, [(.int .i64)]), (false, [(.int .i64)]), (false, [(.int .i64)])], [(true, [(.int .i64), (.sl (.int .i64)), (.sl (.pair (.int .i64) (.int .i64))), (.sl (.int .i64))])], []⟩
abbrev d_impl_cone_isGood_14_0 (v0 : List Int) (v1 : Bool) (v2 : Int) (v3 : Int) (v4 : Int) (v5 : Int) (v6 : Int) (v7 : Int) (v8 : List Int) (v9 : List (Int × Int)) (v10 : List Int) := (((((), ()), (v0, ()), (v1, ()), (v2, ()), (v3, ()), (v4, ()), (v5, ()), (v6, ()), ()), ((v7, v8, v9, v10, ()), ()), ()) : e_impl_cone_isGood_14_0.T)
abbrev e_impl_cone_isGood_14_1 : LS := ⟨[(false, [(.ptr 73 0)]), (false, [(.sl (.int .i64))]), (false, [.undef]), (false, [(.int .i64)]), (false, [(.int .i64)]), (false, [(.int .i64)]), (false, [(.int .i64)]), (false, [(.int .i64)])], [(true, [(.int .i64), (.sl (.int .i64)), (.sl (.pair (.int .i64) (.int .i64))), (.sl (.int .i64))])], []⟩
abbrev d_impl_cone_isGood_14_1 (v0 : List Int) (v1 : Int) (v2 : Int) (v3 : Int) (v4 : Int) (v5 : Int) (v6 : Int) (v7 : List Int) (v8 : List (Int × Int)) (v9 : List Int) := (((((), ()), (v0, ()), ((), ()), (v1, ()), (v2, ()), (v3, ()), (v4, ()), (v5, ()), ()), ((v6, v7, v8, v9, ()), ()), ()) : e_impl_cone_isGood_14_1.T)
abbrev x_impl_cone_isGood_14 : List (Ex × LS) := [(.ret, e_impl_cone_isGood_14_0), (.exit 4, e_impl_cone_isGood_14_1)]
abbrev m_impl_cone_isGood_14 (x1 : List Int) (x5 : Int) (x7 : Int) (x12 : Int) (x13 : Int) (x39 : Int) (x40 : Int) (x61 : Int) (x62 : Int) (b0_0 : Int) (b0_1 : List Int) (b0_2 : List (Int × Int)) (b0_3 : List Int) := (((((), ()), (x1, ()), (x5, ()), (x7, ()), (x12, ()), (x13, ()), (x39, ()), (x40, ()), (x61, ()), (x62, ()), ()), ((b0_0, b0_1, b0_2, b0_3, ()), ()), ()) : s_impl_cone_isGood_14.T)
def u_impl_cone_isGood_14 {R : Type} (nx : s_impl_cone_isGood_14.T → Option R) (hx : exH R x_impl_cone_isGood_14) (x1 : List Int) (x5 : Int) (x7 : Int) (x12 : Int) (x13 : Int) (x39 : Int) (x40 : Int) (x61 : Int) (x62 : Int) (b0_0 : Int) (b0_1 : List Int) (b0_2 : List (Int × Int)) (b0_3 : List Int) : Option R :=
  cond (decide (x62 < x61))
  (Option.bind (g_impl_cone_isCycle (b0_0, (b0_1, (b0_2, b0_3))) x5 x7 x62) fun y589 =>
   cond y589
   (hx.1 (d_impl_cone_isGood_14_0 x1 Bool.false x5 x12 x13 x39 x40 b0_0 b0_1 b0_2 b0_3))
   (nx (m_impl_cone_isGood_14 x1 x5 x7 x12 x13 x39 x40 x61 (IntKind.wrap IntKind.i64 (x62 + (1 : Int))) b0_0 b0_1 b0_2 b0_3)))
  (hx.2.1 (d_impl_cone_isGood_14_1 x1 x5 x12 x13 x39 x40 b0_0 b0_1 b0_2 b0_3))
def t_impl_cone_isGood_14 {R : Type} (nx : s_impl_cone_isGood_14.T → Option R) (hx : exH R x_impl_cone_isGood_14) (z : s_impl_cone_isGood_14.T) : Option R := u_impl_cone_isGood_14 nx hx z.1.2.1.1 z.1.2.2.1.1 z.1.2.2.2.1.1 z.1.2.2.2.2.1.1 z.1.2.2.2.2.2.1.1 z.1.2.2.2.2.2.2.1.1 z.1.2.2.2.2.2.2.2.1.1 z.1.2.2.2.2.2.2.2.2.1.1 z.1.2.2.2.2.2.2.2.2.2.1.1 z.2.1.1.1 z.2.1.1.2.1 z.2.1.1.2.2.1 z.2.1.1.2.2.2.1
theorem nat_impl_cone_isGood_14 : Natural @t_impl_cone_isGood_14 := fun R nx hx z => by
  show u_impl_cone_isGood_14 nx hx z.1.2.1.1 z.1.2.2.1.1 z.1.2.2.2.1.1 z.1.2.2.2.2.1.1 z.1.2.2.2.2.2.1.1 z.1.2.2.2.2.2.2.1.1 z.1.2.2.2.2.2.2.2.1.1 z.1.2.2.2.2.2.2.2.2.1.1 z.1.2.2.2.2.2.2.2.2.2.1.1 z.2.1.1.1 z.2.1.1.2.1 z.2.1.1.2.2.1 z.2.1.1.2.2.2.1 = (u_impl_cone_isGood_14 (fun y => some (.inl y)) (hIn x_impl_cone_isGood_14 fun x => some (.inr x)) z.1.2.1.1 z.1.2.2.1.1 z.1.2.2.2.1.1 z.1.2.2.2.2.1.1 z.1.2.2.2.2.2.1.1 z.1.2.2.2.2.2.2.1.1 z.1.2.2.2.2.2.2.2.1.1 z.1.2.2.2.2.2.2.2.2.1.1 z.1.2.2.2.2.2.2.2.2.2.1.1 z.2.1.1.1 z.2.1.1.2.1 z.2.1.1.2.2.1 z.2.1.1.2.2.2.1).bind (goOn nx hx)
  unfold u_impl_cone_isGood_14
  exact nat_cond (nat_bind fun _ => nat_cond (rfl) (rfl)) (rfl)
def w_impl_cone_isGood_14 : s_impl_cone_isGood_14.T → Option (exT x_impl_cone_isGood_14) := wOf @t_impl_cone_isGood_14
theorem wq_impl_cone_isGood_14 x1 x5 x7 x12 x13 x39 x40 x61 x62 b0_0 b0_1 b0_2 b0_3 : w_impl_cone_isGood_14 (m_impl_cone_isGood_14 x1 x5 x7 x12 x13 x39 x40 x61 x62 b0_0 b0_1 b0_2 b0_3) = u_impl_cone_isGood_14 w_impl_cone_isGood_14 (hIn x_impl_cone_isGood_14 some) x1 x5 x7 x12 x13 x39 x40 x61 x62 b0_0 b0_1 b0_2 b0_3 := wOf_eq nat_impl_cone_isGood_14 _
def lh_impl_cone_isGood_14 : LoopHint := ⟨[0, 1, 5, 7, 12, 13, 39, 40, 61, 62], [73], [0, 1, 4, 5, 12, 13, 39, 40], [73]⟩
abbrev s_impl_cone_isGood_9 : LS := ⟨[(false, [(.ptr 73 0)]), (false, [(.sl (.int .i64))]), (false, [(.int .i64)]), (false, [(.int .i64)]), (false, [(.int .i64)]), (false, [(.int .i64)]), (false, [(.int .i64)])], [(true, [(.int .i64), (.sl (.int .i64)), (.sl (.pair (.int .i64) (.int .i64))), (.sl (.int .i64))])], []⟩
abbrev e_impl_cone_isGood_9_0 : LS := ⟨[(false, [(.ptr 73 0)]), (false, [(.sl (.int .i64))]), (false, [.bool]), (false, [(.int .i64)]), (false, [(.int .i64)])], [(true, [(.int .i64), (.sl (.int .i64)), (.sl (.pair (.int .i64) (.int .i64))), (.sl (.int .i64))])], []⟩
abbrev d_impl_cone_isGood_9_0 (v0 : List Int) (v1 : Bool) (v2 : Int) (v3 : Int) (v4 : Int) (v5 : List Int) (v6 : List (Int × Int)) (v7 : List Int) := (((((), ()), (v0, ()), (v1, ()), (v2, ()), (v3, ()), ()), ((v4, v5, v6, v7, ()), ()), ()) : e_impl_cone_isGood_9_0.T)
abbrev e_impl_cone_isGood_9_1 : LS := ⟨[(false, [(.ptr 73 0)]), (false, [(.sl (.int .i64))]), (false, [.undef]), (false, [(.int .i64)]), (false, [(.int .i64)])], [(true, [(.int .i64), (.sl (.int .i64)), (.sl (.pair (.int .i64) (.int .i64))), (.sl (.int .i64))])], []⟩
abbrev d_impl_cone_isGood_9_1 (v0 : List Int) (v1 : Int) (v2 : Int) (v3 : Int) (v4 : List Int) (v5 : List (Int × Int)) (v6 : List Int) := (((((), ()), (v0, ()), ((), ()), (v1, ()), (v2, ()), ()), ((v3, v4, v5, v6, ()), ()), ()) : e_impl_cone_isGood_9_1.T)
abbrev x_impl_cone_isGood_9 : List (Ex × LS) := [(.ret, e_impl_cone_isGood_9_0), (.exit 2, e_impl_cone_isGood_9_1)]
abbrev m_impl_cone_isGood_9 (x1 : List Int) (x5 : Int) (x12 : Int) (x13 : Int) (x39 : Int) (x40 : Int) (b0_0 : Int) (b0_1 : List Int) (b0_2 : List (Int × Int)) (b0_3 : List Int) := (((((), ()), (x1, ()), (x5, ()), (x12, ()), (x13, ()), (x39, ()), (x40, ()), ()), ((b0_0, b0_1, b0_2, b0_3, ()), ()), ()) : s_impl_cone_isGood_9.T)
def u_impl_cone_isGood_9 {R : Type} (nx : s_impl_cone_isGood_9.T → Option R) (hx : exH R x_impl_cone_isGood_9) (x1 : List Int) (x5 : Int) (x12 : Int) (x13 : Int) (x39 : Int) (x40 : Int) (b0_0 : Int) (b0_1 : List Int) (b0_2 : List (Int × Int)) (b0_3 : List Int) : Option R :=
  cond (decide (x40 < x39))
  (Option.bind (g_impl_cone_isThrough (b0_0, (b0_1, (b0_2, b0_3))) x5 x40) fun y551 =>
   cond y551
   (hx.1 (d_impl_cone_isGood_9_0 x1 Bool.false x12 x13 b0_0 b0_1 b0_2 b0_3))
   (cond (x5 != x40)
    (Option.bind (g_impl_cone_isWoven (b0_0, (b0_1, (b0_2, b0_3))) x5 x40) fun y567 =>
     cond y567
     (hx.1 (d_impl_cone_isGood_9_0 x1 Bool.false x12 x13 b0_0 b0_1 b0_2 b0_3))
     (Option.bind (w_impl_cone_isGood_14 (m_impl_cone_isGood_14 x1 x5 x40 x12 x13 x39 x40 b0_0 (0 : Int) b0_0 b0_1 b0_2 b0_3)) (exC x_impl_cone_isGood_14
      (fun e590 =>
       hx.1 (d_impl_cone_isGood_9_0 (e590.1.2.1.1 : List Int) (e590.1.2.2.1.1 : Bool) (e590.1.2.2.2.2.1.1 : Int) (e590.1.2.2.2.2.2.1.1 : Int) (e590.2.1.1.1 : Int) (e590.2.1.1.2.1 : List Int) (e590.2.1.1.2.2.1 : List (Int × Int)) (e590.2.1.1.2.2.2.1 : List Int)), fun e602 =>
       nx (m_impl_cone_isGood_9 (e602.1.2.1.1 : List Int) (e602.1.2.2.2.1.1 : Int) (e602.1.2.2.2.2.1.1 : Int) (e602.1.2.2.2.2.2.1.1 : Int) (e602.1.2.2.2.2.2.2.1.1 : Int) (IntKind.wrap IntKind.i64 ((e602.1.2.2.2.2.2.2.2.1.1 : Int) + (1 : Int))) (e602.2.1.1.1 : Int) (e602.2.1.1.2.1 : List Int) (e602.2.1.1.2.2.1 : List (Int × Int)) (e602.2.1.1.2.2.2.1 : List Int)), ()))))
    (Option.bind (w_impl_cone_isGood_14 (m_impl_cone_isGood_14 x1 x5 x40 x12 x13 x39 x40 b0_0 (0 : Int) b0_0 b0_1 b0_2 b0_3)) (exC x_impl_cone_isGood_14
     (fun e613 =>
      hx.1 (d_impl_cone_isGood_9_0 (e613.1.2.1.1 : List Int) (e613.1.2.2.1.1 : Bool) (e613.1.2.2.2.2.1.1 : Int) (e613.1.2.2.2.2.2.1.1 : Int) (e613.2.1.1.1 : Int) (e613.2.1.1.2.1 : List Int) (e613.2.1.1.2.2.1 : List (Int × Int)) (e613.2.1.1.2.2.2.1 : List Int)), fun e625 =>
      nx (m_impl_cone_isGood_9 (e625.1.2.1.1 : List Int) (e625.1.2.2.2.1.1 : Int) (e625.1.2.2.2.2.1.1 : Int) (e625.1.2.2.2.2.2.1.1 : Int) (e625.1.2.2.2.2.2.2.1.1 : Int) (IntKind.wrap IntKind.i64 ((e625.1.2.2.2.2.2.2.2.1.1 : Int) + (1 : Int))) (e625.2.1.1.1 : Int) (e625.2.1.1.2.1 : List Int) (e625.2.1.1.2.2.1 : List (Int × Int)) (e625.2.1.1.2.2.2.1 : List Int)), ())))))
  (hx.2.1 (d_impl_cone_isGood_9_1 x1 x12 x13 b0_0 b0_1 b0_2 b0_3))
def t_impl_cone_isGood_9 {R : Type} (nx : s_impl_cone_isGood_9.T → Option R) (hx : exH R x_impl_cone_isGood_9) (z : s_impl_cone_isGood_9.T) : Option R := u_impl_cone_isGood_9 nx hx z.1.2.1.1 z.1.2.2.1.1 z.1.2.2.2.1.1 z.1.2.2.2.2.1.1 z.1.2.2.2.2.2.1.1 z.1.2.2.2.2.2.2.1.1 z.2.1.1.1 z.2.1.1.2.1 z.2.1.1.2.2.1 z.2.1.1.2.2.2.1
theorem nat_impl_cone_isGood_9 : Natural @t_impl_cone_isGood_9 := fun R nx hx z => by
  show u_impl_cone_isGood_9 nx hx z.1.2.1.1 z.1.2.2.1.1 z.1.2.2.2.1.1 z.1.2.2.2.2.1.1 z.1.2.2.2.2.2.1.1 z.1.2.2.2.2.2.2.1.1 z.2.1.1.1 z.2.1.1.2.1 z.2.1.1.2.2.1 z.2.1.1.2.2.2.1 = (u_impl_cone_isGood_9 (fun y => some (.inl y)) (hIn x_impl_cone_isGood_9 fun x => some (.inr x)) z.1.2.1.1 z.1.2.2.1.1 z.1.2.2.2.1.1 z.1.2.2.2.2.1.1 z.1.2.2.2.2.2.1.1 z.1.2.2.2.2.2.2.1.1 z.2.1.1.1 z.2.1.1.2.1 z.2.1.1.2.2.1 z.2.1.1.2.2.2.1).bind (goOn nx hx)
  unfold u_impl_cone_isGood_9
  exact nat_cond (nat_bind fun _ => nat_cond (rfl) (nat_cond (nat_bind fun _ => nat_cond (rfl) (nat_exC ⟨fun _ => rfl, fun _ => rfl, trivial⟩)) (nat_exC ⟨fun _ => rfl, fun _ => rfl, trivial⟩))) (rfl)
def w_impl_cone_isGood_9 : s_impl_cone_isGood_9.T → Option (exT x_impl_cone_isGood_9) := wOf @t_impl_cone_isGood_9
theorem wq_impl_cone_isGood_9 x1 x5 x12 x13 x39 x40 b0_0 b0_1 b0_2 b0_3 : w_impl_cone_isGood_9 (m_impl_cone_isGood_9 x1 x5 x12 x13 x39 x40 b0_0 b0_1 b0_2 b0_3) = u_impl_cone_isGood_9 w_impl_cone_isGood_9 (hIn x_impl_cone_isGood_9 some) x1 x5 x12 x13 x39 x40 b0_0 b0_1 b0_2 b0_3 := wOf_eq nat_impl_cone_isGood_9 _
def lh_impl_cone_isGood_9 : LoopHint := ⟨[0, 1, 5, 12, 13, 39, 40], [73], [0, 1, 4, 12, 13], [73]⟩
abbrev s_impl_cone_isGood_3 : LS := ⟨[(false, [(.ptr 73 0)]), (false, [(.sl (.int .i64))]), (false, [(.int .i64)]), (false, [(.int .i64)])], [(true, [(.int .i64), (.sl (.int .i64)), (.sl (.pair (.int .i64) (.int .i64))), (.sl (.int .i64))])], []⟩
abbrev e_impl_cone_isGood_3_0 : LS := ⟨[(false, [.bool])], [], []⟩
abbrev d_impl_cone_isGood_3_0 (v0 : Bool) := ((((v0, ()), ()), (), ()) : e_impl_cone_isGood_3_0.T)
abbrev e_impl_cone_isGood_3_1 : LS := ⟨[(false, [.undef])], [], []⟩
abbrev d_impl_cone_isGood_3_1 := (((((), ()), ()), (), ()) : e_impl_cone_isGood_3_1.T)
abbrev x_impl_cone_isGood_3 : List (Ex × LS) := [(.ret, e_impl_cone_isGood_3_0), (.exit 0, e_impl_cone_isGood_3_1)]
abbrev m_impl_cone_isGood_3 (x1 : List Int) (x12 : Int) (x13 : Int) (b0_0 : Int) (b0_1 : List Int) (b0_2 : List (Int × Int)) (b0_3 : List Int) := (((((), ()), (x1, ()), (x12, ()), (x13, ()), ()), ((b0_0, b0_1, b0_2, b0_3, ()), ()), ()) : s_impl_cone_isGood_3.T)
def u_impl_cone_isGood_3 {R : Type} (nx : s_impl_cone_isGood_3.T → Option R) (hx : exH R x_impl_cone_isGood_3) (x1 : List Int) (x12 : Int) (x13 : Int) (b0_0 : Int) (b0_1 : List Int) (b0_2 : List (Int × Int)) (b0_3 : List Int) : Option R :=
  cond (decide (x13 < x12))
  (Option.bind (g_impl_cone_kindOf (b0_0, (b0_1, (b0_2, b0_3))) x13) fun y524 =>
   Option.bind (idx x1 x13) fun y525 =>
   cond (y525 != (4 : Int))
   (cond (y524 != (0 : Int))
    (Option.bind (idx x1 x13) fun y526 =>
     cond (y524 != y526)
     (hx.1 (d_impl_cone_isGood_3_0 Bool.false))
     (Option.bind (w_impl_cone_isGood_9 (m_impl_cone_isGood_9 x1 x13 x12 x13 b0_0 (0 : Int) b0_0 b0_1 b0_2 b0_3)) (exC x_impl_cone_isGood_9
      (fun e636 =>
       hx.1 (d_impl_cone_isGood_3_0 (e636.1.2.2.1.1 : Bool)), fun e645 =>
       nx (m_impl_cone_isGood_3 (e645.1.2.1.1 : List Int) (e645.1.2.2.2.1.1 : Int) (IntKind.wrap IntKind.i64 ((e645.1.2.2.2.2.1.1 : Int) + (1 : Int))) (e645.2.1.1.1 : Int) (e645.2.1.1.2.1 : List Int) (e645.2.1.1.2.2.1 : List (Int × Int)) (e645.2.1.1.2.2.2.1 : List Int)), ()))))
    (Option.bind (w_impl_cone_isGood_9 (m_impl_cone_isGood_9 x1 x13 x12 x13 b0_0 (0 : Int) b0_0 b0_1 b0_2 b0_3)) (exC x_impl_cone_isGood_9
     (fun e653 =>
      hx.1 (d_impl_cone_isGood_3_0 (e653.1.2.2.1.1 : Bool)), fun e662 =>
      nx (m_impl_cone_isGood_3 (e662.1.2.1.1 : List Int) (e662.1.2.2.2.1.1 : Int) (IntKind.wrap IntKind.i64 ((e662.1.2.2.2.2.1.1 : Int) + (1 : Int))) (e662.2.1.1.1 : Int) (e662.2.1.1.2.1 : List Int) (e662.2.1.1.2.2.1 : List (Int × Int)) (e662.2.1.1.2.2.2.1 : List Int)), ()))))
   (Option.bind (w_impl_cone_isGood_9 (m_impl_cone_isGood_9 x1 x13 x12 x13 b0_0 (0 : Int) b0_0 b0_1 b0_2 b0_3)) (exC x_impl_cone_isGood_9
    (fun e670 =>
     hx.1 (d_impl_cone_isGood_3_0 (e670.1.2.2.1.1 : Bool)), fun e679 =>
     nx (m_impl_cone_isGood_3 (e679.1.2.1.1 : List Int) (e679.1.2.2.2.1.1 : Int) (IntKind.wrap IntKind.i64 ((e679.1.2.2.2.2.1.1 : Int) + (1 : Int))) (e679.2.1.1.1 : Int) (e679.2.1.1.2.1 : List Int) (e679.2.1.1.2.2.1 : List (Int × Int)) (e679.2.1.1.2.2.2.1 : List Int)), ()))))
  (hx.2.1 (d_impl_cone_isGood_3_1))
def t_impl_cone_isGood_3 {R : Type} (nx : s_impl_cone_isGood_3.T → Option R) (hx : exH R x_impl_cone_isGood_3) (z : s_impl_cone_isGood_3.T) : Option R := u_impl_cone_isGood_3 nx hx z.1.2.1.1 z.1.2.2.1.1 z.1.2.2.2.1.1 z.2.1.1.1 z.2.1.1.2.1 z.2.1.1.2.2.1 z.2.1.1.2.2.2.1
theorem nat_impl_cone_isGood_3 : Natural @t_impl_cone_isGood_3 := fun R nx hx z => by
  show u_impl_cone_isGood_3 nx hx z.1.2.1.1 z.1.2.2.1.1 z.1.2.2.2.1.1 z.2.1.1.1 z.2.1.1.2.1 z.2.1.1.2.2.1 z.2.1.1.2.2.2.1 = (u_impl_cone_isGood_3 (fun y => some (.inl y)) (hIn x_impl_cone_isGood_3 fun x => some (.inr x)) z.1.2.1.1 z.1.2.2.1.1 z.1.2.2.2.1.1 z.2.1.1.1 z.2.1.1.2.1 z.2.1.1.2.2.1 z.2.1.1.2.2.2.1).bind (goOn nx hx)
  unfold u_impl_cone_isGood_3
  exact nat_cond (nat_bind fun _ => nat_bind fun _ => nat_cond (nat_cond (nat_bind fun _ => nat_cond (rfl) (nat_exC ⟨fun _ => rfl, fun _ => rfl, trivial⟩)) (nat_exC ⟨fun _ => rfl, fun _ => rfl, trivial⟩)) (nat_exC ⟨fun _ => rfl, fun _ => rfl, trivial⟩)) (rfl)
def w_impl_cone_isGood_3 : s_impl_cone_isGood_3.T → Option (exT x_impl_cone_isGood_3) := wOf @t_impl_cone_isGood_3
theorem wq_impl_cone_isGood_3 x1 x12 x13 b0_0 b0_1 b0_2 b0_3 : w_impl_cone_isGood_3 (m_impl_cone_isGood_3 x1 x12 x13 b0_0 b0_1 b0_2 b0_3) = u_impl_cone_isGood_3 w_impl_cone_isGood_3 (hIn x_impl_cone_isGood_3 some) x1 x12 x13 b0_0 b0_1 b0_2 b0_3 := wOf_eq nat_impl_cone_isGood_3 _
def lh_impl_cone_isGood_3 : LoopHint := ⟨[0, 1, 12, 13], [73], [4], []⟩
def h_impl_cone_isGood : Hints Rv := ⟨fun k => match k with | 14 => lh_impl_cone_isGood_14 | 9 => lh_impl_cone_isGood_9 | 3 => lh_impl_cone_isGood_3 | _ => ⟨[], [], [], []⟩, fun k => match k with | 14 => some (loopX s_impl_cone_isGood_14 x_impl_cone_isGood_14 w_impl_cone_isGood_14) | 9 => some (loopX s_impl_cone_isGood_9 x_impl_cone_isGood_9 w_impl_cone_isGood_9) | 3 => some (loopX s_impl_cone_isGood_3 x_impl_cone_isGood_3 w_impl_cone_isGood_3) | _ => none⟩
theorem st_impl_cone_isGood_14 (n : Nat) (z : s_impl_cone_isGood_14.T) (k : Ex → Live → Option Rv) : loopN ⟨73, 74⟩ lh_impl_cone_isGood_14 (den (tab C0 T_impl_cone_isGood) ⟨73, 74⟩ h_impl_cone_isGood 1 (loopOf Try.f96 13)) (n + 1) (s_impl_cone_isGood_14.enc z) k =
    t_impl_cone_isGood_14 (fun y => loopN ⟨73, 74⟩ lh_impl_cone_isGood_14 (den (tab C0 T_impl_cone_isGood) ⟨73, 74⟩ h_impl_cone_isGood 1 (loopOf Try.f96 13)) n (s_impl_cone_isGood_14.enc y) k) (hK k x_impl_cone_isGood_14) z := by kernel_rfl
theorem st_impl_cone_isGood_9 (n : Nat) (z : s_impl_cone_isGood_9.T) (k : Ex → Live → Option Rv) : loopN ⟨73, 74⟩ lh_impl_cone_isGood_9 (den (tab C0 T_impl_cone_isGood) ⟨73, 74⟩ h_impl_cone_isGood 1 (loopOf Try.f96 8)) (n + 1) (s_impl_cone_isGood_9.enc z) k =
    t_impl_cone_isGood_9 (fun y => loopN ⟨73, 74⟩ lh_impl_cone_isGood_9 (den (tab C0 T_impl_cone_isGood) ⟨73, 74⟩ h_impl_cone_isGood 1 (loopOf Try.f96 8)) n (s_impl_cone_isGood_9.enc y) k) (hK k x_impl_cone_isGood_9) z := by kernel_rfl
theorem st_impl_cone_isGood_3 (n : Nat) (z : s_impl_cone_isGood_3.T) (k : Ex → Live → Option Rv) : loopN ⟨73, 74⟩ lh_impl_cone_isGood_3 (den (tab C0 T_impl_cone_isGood) ⟨73, 74⟩ h_impl_cone_isGood 1 (loopOf Try.f96 2)) (n + 1) (s_impl_cone_isGood_3.enc z) k =
    t_impl_cone_isGood_3 (fun y => loopN ⟨73, 74⟩ lh_impl_cone_isGood_3 (den (tab C0 T_impl_cone_isGood) ⟨73, 74⟩ h_impl_cone_isGood 1 (loopOf Try.f96 2)) n (s_impl_cone_isGood_3.enc y) k) (hK k x_impl_cone_isGood_3) z := by kernel_rfl
theorem hs_impl_cone_isGood : HintsOk (tab C0 T_impl_cone_isGood) ⟨73, 74⟩ h_impl_cone_isGood 1 (loops (codeOf Try.f96)) := by
  have hl : loops (codeOf Try.f96) = [loopOf Try.f96 2, loopOf Try.f96 8, loopOf Try.f96 13] := by kernel_rfl
  rw [hl]
  exact HintsOk.cons (n := 3) (lh := lh_impl_cone_isGood_3) (S := loopX s_impl_cone_isGood_3 x_impl_cone_isGood_3 w_impl_cone_isGood_3) (by kernel_rfl) rfl rfl (loopX_ok nat_impl_cone_isGood_3 st_impl_cone_isGood_3)
    (HintsOk.cons (n := 9) (lh := lh_impl_cone_isGood_9) (S := loopX s_impl_cone_isGood_9 x_impl_cone_isGood_9 w_impl_cone_isGood_9) (by kernel_rfl) rfl rfl (loopX_ok nat_impl_cone_isGood_9 st_impl_cone_isGood_9)
    (HintsOk.cons (n := 14) (lh := lh_impl_cone_isGood_14) (S := loopX s_impl_cone_isGood_14 x_impl_cone_isGood_14 w_impl_cone_isGood_14) (by kernel_rfl) rfl rfl (loopX_ok nat_impl_cone_isGood_14 st_impl_cone_isGood_14)
    (HintsOk.nil)))
def t_impl_cone_isGood {R : Type} (kx : Bool → Option R) (a0 : (Int × ((List Int) × ((List (Int × Int)) × (List Int))))) (a1 : (List Int)) : Option R :=
  Option.bind (w_impl_cone_isGood_3 (m_impl_cone_isGood_3 a1 a0.1 (0 : Int) a0.1 a0.2.1 a0.2.2.1 a0.2.2.2)) (exC x_impl_cone_isGood_3
  (fun e687 =>
   kx (e687.1.1.1 : Bool), fun _ =>
   kx Bool.true, ()))
def g_impl_cone_isGood (a0 : (Int × ((List Int) × ((List (Int × Int)) × (List Int))))) (a1 : (List Int)) : Option (Bool) := t_impl_cone_isGood some a0 a1
theorem nat_impl_cone_isGood {R} kx a0 a1 : @t_impl_cone_isGood R kx a0 a1 = (g_impl_cone_isGood a0 a1).bind kx := by
  unfold g_impl_cone_isGood t_impl_cone_isGood
  exact nat_exC ⟨fun _ => rfl, fun _ => rfl, trivial⟩
abbrev k_impl_cone_isGood : Contract := .fx [.ptr (.pair (.int .i64) (.pair (.slice (.int .i64)) (.pair (.slice (.pair (.int .i64) (.int .i64))) (.slice (.int .i64))))), .val false (.slice (.int .i64))] (Bool) (fun z => g_impl_cone_isGood z.1 z.2.1) (fun b => (.one ⟨false, [(.v (.bool b))]⟩, []))
theorem so_impl_cone_isGood : Sound C0 96 k_impl_cone_isGood :=
  Sound.fx (e := false) (t := T_impl_cone_isGood) (.cons so_impl_cone_kindOf (.cons so_impl_cone_isThrough (.cons so_impl_cone_isWoven (.cons so_impl_cone_isCycle (.nil))))) mixed Try.func96 (by kernel_rfl) (by kernel_rfl) h_impl_cone_isGood 1 hs_impl_cone_isGood (fun z => (by kernel_rfl : _ = t_impl_cone_isGood (fun b => some (k_impl_cone_isGood.enc b)) z.1 z.2.1).trans (nat_impl_cone_isGood _ z.1 z.2.1))

/-! ### F58 impl.goodOrder -/
def t_impl_goodOrder {R : Type} (kx : Bool → Option R) (a0 : (List Int)) (a1 : (List Int)) (a2 : (List Int)) : Option R :=
  Option.bind (g_impl_newCone a0 a2) fun y444 =>
  Option.bind (g_impl_cone_hasForm y444) fun y508 =>
  cond y508
  (Option.bind (g_impl_cone_isGood y444 a1) fun y690 =>
   kx y690)
  (kx Bool.false)
def g_impl_goodOrder (a0 : (List Int)) (a1 : (List Int)) (a2 : (List Int)) : Option (Bool) := t_impl_goodOrder some a0 a1 a2
theorem nat_impl_goodOrder {R} kx a0 a1 a2 : @t_impl_goodOrder R kx a0 a1 a2 = (g_impl_goodOrder a0 a1 a2).bind kx := by
  unfold g_impl_goodOrder t_impl_goodOrder
  exact nat_bind fun _ => nat_bind fun _ => nat_cond (nat_bind fun _ => rfl) (rfl)
abbrev k_impl_goodOrder : Contract := .fx [.val false (.slice (.int .i64)), .val false (.slice (.int .i64)), .val false (.slice (.int .i64))] (Bool) (fun z => g_impl_goodOrder z.1 z.2.1 z.2.2.1) (fun b => (.one ⟨false, [(.v (.bool b))]⟩, []))
theorem so_impl_goodOrder : Sound C0 58 k_impl_goodOrder :=
  Sound.fx (e := false) (.cons so_impl_newCone (.cons so_impl_cone_hasForm (.cons so_impl_cone_isGood (.nil)))) mixed Try.func58 (by kernel_rfl) (by kernel_rfl) noHints 1 noHints_ok (fun z => (by kernel_rfl : _ = t_impl_goodOrder (fun b => some (k_impl_goodOrder.enc b)) z.1 z.2.1 z.2.2.1).trans (nat_impl_goodOrder _ z.1 z.2.1 z.2.2.1))

/-! ### F30 impl.KindsOfOrder -/
def T_impl_KindsOfOrder : List (FuncId × Contract) := [(56, k_impl_ValidCone), (60, k_slices_Repeat_Sint64_int64), (58, k_impl_goodOrder), (61, k_impl_newCone), (62, k_impl_cone_kindOf)]
abbrev s_impl_KindsOfOrder_7 : LS := ⟨[(false, [(.ptr 24 0)]), (false, [(.own (.int .i64))]), (false, [(.int .i64)]), (false, [(.int .i64)])], [(false, [(.int .i64), (.own (.int .i64)), (.own (.pair (.int .i64) (.int .i64))), (.sl (.int .i64))])], []⟩
abbrev e_impl_KindsOfOrder_7_0 : LS := ⟨[(false, [(.own (.int .i64))])], [], []⟩
abbrev d_impl_KindsOfOrder_7_0 (v0 : List Int) := ((((v0, ()), ()), (), ()) : e_impl_KindsOfOrder_7_0.T)
abbrev x_impl_KindsOfOrder_7 : List (Ex × LS) := [(.exit 0, e_impl_KindsOfOrder_7_0)]
abbrev m_impl_KindsOfOrder_7 (x7 : List Int) (x26 : Int) (x27 : Int) (b0_0 : Int) (b0_1 : List Int) (b0_2 : List (Int × Int)) (b0_3 : List Int) := (((((), ()), (x7, ()), (x26, ()), (x27, ()), ()), ((b0_0, b0_1, b0_2, b0_3, ()), ()), ()) : s_impl_KindsOfOrder_7.T)
def u_impl_KindsOfOrder_7 {R : Type} (nx : s_impl_KindsOfOrder_7.T → Option R) (hx : exH R x_impl_KindsOfOrder_7) (x7 : List Int) (x26 : Int) (x27 : Int) (b0_0 : Int) (b0_1 : List Int) (b0_2 : List (Int × Int)) (b0_3 : List Int) : Option R :=
  cond (decide (x27 < x26))
  (Option.bind (g_impl_cone_kindOf (b0_0, (b0_1, (b0_2, b0_3))) x27) fun y700 =>
   cond (decide ((((List.length x7) + (List.length [y700])) * 8) ≤ 70368744177664))
   (cond (decide (((List.length x7) + (List.length [y700])) ≤ 70368744177664))
    (nx (m_impl_KindsOfOrder_7 (x7 ++ [y700]) x26 (IntKind.wrap IntKind.i64 (x27 + (1 : Int))) b0_0 b0_1 b0_2 b0_3))
    (none))
   (none))
  (hx.1 (d_impl_KindsOfOrder_7_0 x7))
def t_impl_KindsOfOrder_7 {R : Type} (nx : s_impl_KindsOfOrder_7.T → Option R) (hx : exH R x_impl_KindsOfOrder_7) (z : s_impl_KindsOfOrder_7.T) : Option R := u_impl_KindsOfOrder_7 nx hx z.1.2.1.1 z.1.2.2.1.1 z.1.2.2.2.1.1 z.2.1.1.1 z.2.1.1.2.1 z.2.1.1.2.2.1 z.2.1.1.2.2.2.1
theorem nat_impl_KindsOfOrder_7 : Natural @t_impl_KindsOfOrder_7 := fun R nx hx z => by
  show u_impl_KindsOfOrder_7 nx hx z.1.2.1.1 z.1.2.2.1.1 z.1.2.2.2.1.1 z.2.1.1.1 z.2.1.1.2.1 z.2.1.1.2.2.1 z.2.1.1.2.2.2.1 = (u_impl_KindsOfOrder_7 (fun y => some (.inl y)) (hIn x_impl_KindsOfOrder_7 fun x => some (.inr x)) z.1.2.1.1 z.1.2.2.1.1 z.1.2.2.2.1.1 z.2.1.1.1 z.2.1.1.2.1 z.2.1.1.2.2.1 z.2.1.1.2.2.2.1).bind (goOn nx hx)
  unfold u_impl_KindsOfOrder_7
  exact nat_cond (nat_bind fun _ => nat_cond (nat_cond (rfl) (rfl)) (rfl)) (rfl)
def w_impl_KindsOfOrder_7 : s_impl_KindsOfOrder_7.T → Option (exT x_impl_KindsOfOrder_7) := wOf @t_impl_KindsOfOrder_7
theorem wq_impl_KindsOfOrder_7 x7 x26 x27 b0_0 b0_1 b0_2 b0_3 : w_impl_KindsOfOrder_7 (m_impl_KindsOfOrder_7 x7 x26 x27 b0_0 b0_1 b0_2 b0_3) = u_impl_KindsOfOrder_7 w_impl_KindsOfOrder_7 (hIn x_impl_KindsOfOrder_7 some) x7 x26 x27 b0_0 b0_1 b0_2 b0_3 := wOf_eq nat_impl_KindsOfOrder_7 _
def lh_impl_KindsOfOrder_7 : LoopHint := ⟨[6, 7, 26, 27], [24], [7], []⟩
def h_impl_KindsOfOrder : Hints Rv := ⟨fun k => match k with | 7 => lh_impl_KindsOfOrder_7 | _ => ⟨[], [], [], []⟩, fun k => match k with | 7 => some (loopX s_impl_KindsOfOrder_7 x_impl_KindsOfOrder_7 w_impl_KindsOfOrder_7) | _ => none⟩
theorem st_impl_KindsOfOrder_7 (n : Nat) (z : s_impl_KindsOfOrder_7.T) (k : Ex → Live → Option Rv) : loopN ⟨38, 38⟩ lh_impl_KindsOfOrder_7 (den (tab C0 T_impl_KindsOfOrder) ⟨38, 38⟩ h_impl_KindsOfOrder 1 (loopOf Try.f30 6)) (n + 1) (s_impl_KindsOfOrder_7.enc z) k =
    t_impl_KindsOfOrder_7 (fun y => loopN ⟨38, 38⟩ lh_impl_KindsOfOrder_7 (den (tab C0 T_impl_KindsOfOrder) ⟨38, 38⟩ h_impl_KindsOfOrder 1 (loopOf Try.f30 6)) n (s_impl_KindsOfOrder_7.enc y) k) (hK k x_impl_KindsOfOrder_7) z := by kernel_rfl
theorem hs_impl_KindsOfOrder : HintsOk (tab C0 T_impl_KindsOfOrder) ⟨38, 38⟩ h_impl_KindsOfOrder 1 (loops (codeOf Try.f30)) := by
  have hl : loops (codeOf Try.f30) = [loopOf Try.f30 6] := by kernel_rfl
  rw [hl]
  exact HintsOk.cons (n := 7) (lh := lh_impl_KindsOfOrder_7) (S := loopX s_impl_KindsOfOrder_7 x_impl_KindsOfOrder_7 w_impl_KindsOfOrder_7) (by kernel_rfl) rfl rfl (loopX_ok nat_impl_KindsOfOrder_7 st_impl_KindsOfOrder_7)
    (HintsOk.nil)
def t_impl_KindsOfOrder {R : Type} (kx : (List Int) × Bool → Option R) (a0 : (List Int)) (a1 : (List Int)) : Option R :=
  Option.bind (g_impl_ValidCone a0) fun y399 =>
  cond (!y399)
  (kx ([], Bool.false))
  (Option.bind (g_slices_Repeat_Sint64_int64 [(4 : Int)] (((List.length a0) : Nat) : Int)) fun y414 =>
   Option.bind (g_impl_goodOrder a0 y414 a1) fun y691 =>
   cond (!y691)
   (kx ([], Bool.false))
   (Option.bind (g_impl_newCone a0 a1) fun y692 =>
    Option.bind (w_impl_KindsOfOrder_7 (m_impl_KindsOfOrder_7 [] (((List.length a0) : Nat) : Int) (0 : Int) y692.1 y692.2.1 y692.2.2.1 y692.2.2.2)) (exC x_impl_KindsOfOrder_7
    (fun e701 =>
     kx ((e701.1.1.1 : List Int), Bool.true), ()))))
def g_impl_KindsOfOrder (a0 : (List Int)) (a1 : (List Int)) : Option ((List Int) × Bool) := t_impl_KindsOfOrder some a0 a1
theorem nat_impl_KindsOfOrder {R} kx a0 a1 : @t_impl_KindsOfOrder R kx a0 a1 = (g_impl_KindsOfOrder a0 a1).bind kx := by
  unfold g_impl_KindsOfOrder t_impl_KindsOfOrder
  exact nat_bind fun _ => nat_cond (rfl) (nat_bind fun _ => nat_bind fun _ => nat_cond (rfl) (nat_bind fun _ => nat_exC ⟨fun _ => rfl, trivial⟩))
abbrev k_impl_KindsOfOrder : Contract := .fx [.val false (.slice (.int .i64)), .val false (.slice (.int .i64))] ((List Int) × Bool) (fun z => g_impl_KindsOfOrder z.1 z.2.1) (fun b => (.tup [⟨false, [(.own (.int .i64) b.1)]⟩, ⟨false, [(.v (.bool b.2))]⟩], []))
theorem so_impl_KindsOfOrder : Sound C0 30 k_impl_KindsOfOrder :=
  Sound.fx (e := false) (t := T_impl_KindsOfOrder) (.cons so_impl_ValidCone (.cons so_slices_Repeat_Sint64_int64 (.cons so_impl_goodOrder (.cons so_impl_newCone (.cons so_impl_cone_kindOf (.nil)))))) mixed Try.func30 (by kernel_rfl) (by kernel_rfl) h_impl_KindsOfOrder 1 hs_impl_KindsOfOrder (fun z => (by kernel_rfl : _ = t_impl_KindsOfOrder (fun b => some (k_impl_KindsOfOrder.enc b)) z.1 z.2.1).trans (nat_impl_KindsOfOrder _ z.1 z.2.1))

/-! ### F28 laws.eqInt64S -/
def T_laws_eqInt64S : List (FuncId × Contract) := []
abbrev s_laws_eqInt64S_5 : LS := ⟨[(false, [(.sl (.int .i64))]), (false, [(.sl (.int .i64))]), (false, [(.int .i64)])], [], []⟩
abbrev e_laws_eqInt64S_5_0 : LS := ⟨[(false, [.bool])], [], []⟩
abbrev d_laws_eqInt64S_5_0 (v0 : Bool) := ((((v0, ()), ()), (), ()) : e_laws_eqInt64S_5_0.T)
abbrev e_laws_eqInt64S_5_1 : LS := ⟨[(false, [.undef])], [], []⟩
abbrev d_laws_eqInt64S_5_1 := (((((), ()), ()), (), ()) : e_laws_eqInt64S_5_1.T)
abbrev x_laws_eqInt64S_5 : List (Ex × LS) := [(.ret, e_laws_eqInt64S_5_0), (.exit 0, e_laws_eqInt64S_5_1)]
abbrev m_laws_eqInt64S_5 (x0 : List Int) (x1 : List Int) (x5 : Int) := ((((x0, ()), (x1, ()), (x5, ()), ()), (), ()) : s_laws_eqInt64S_5.T)
def u_laws_eqInt64S_5 {R : Type} (nx : s_laws_eqInt64S_5.T → Option R) (hx : exH R x_laws_eqInt64S_5) (x0 : List Int) (x1 : List Int) (x5 : Int) : Option R :=
  cond (decide (x5 < (((List.length x0) : Nat) : Int)))
  (Option.bind (idx x0 x5) fun y709 =>
   Option.bind (idx x1 x5) fun y710 =>
   cond (y709 != y710)
   (hx.1 (d_laws_eqInt64S_5_0 Bool.false))
   (nx (m_laws_eqInt64S_5 x0 x1 (IntKind.wrap IntKind.i64 (x5 + (1 : Int))))))
  (hx.2.1 (d_laws_eqInt64S_5_1))
def t_laws_eqInt64S_5 {R : Type} (nx : s_laws_eqInt64S_5.T → Option R) (hx : exH R x_laws_eqInt64S_5) (z : s_laws_eqInt64S_5.T) : Option R := u_laws_eqInt64S_5 nx hx z.1.1.1 z.1.2.1.1 z.1.2.2.1.1
theorem nat_laws_eqInt64S_5 : Natural @t_laws_eqInt64S_5 := fun R nx hx z => by
  show u_laws_eqInt64S_5 nx hx z.1.1.1 z.1.2.1.1 z.1.2.2.1.1 = (u_laws_eqInt64S_5 (fun y => some (.inl y)) (hIn x_laws_eqInt64S_5 fun x => some (.inr x)) z.1.1.1 z.1.2.1.1 z.1.2.2.1.1).bind (goOn nx hx)
  unfold u_laws_eqInt64S_5
  exact nat_cond (nat_bind fun _ => nat_bind fun _ => nat_cond (rfl) (rfl)) (rfl)
def w_laws_eqInt64S_5 : s_laws_eqInt64S_5.T → Option (exT x_laws_eqInt64S_5) := wOf @t_laws_eqInt64S_5
theorem wq_laws_eqInt64S_5 x0 x1 x5 : w_laws_eqInt64S_5 (m_laws_eqInt64S_5 x0 x1 x5) = u_laws_eqInt64S_5 w_laws_eqInt64S_5 (hIn x_laws_eqInt64S_5 some) x0 x1 x5 := wOf_eq nat_laws_eqInt64S_5 _
def lh_laws_eqInt64S_5 : LoopHint := ⟨[0, 1, 5], [], [4], []⟩
def h_laws_eqInt64S : Hints Rv := ⟨fun k => match k with | 5 => lh_laws_eqInt64S_5 | _ => ⟨[], [], [], []⟩, fun k => match k with | 5 => some (loopX s_laws_eqInt64S_5 x_laws_eqInt64S_5 w_laws_eqInt64S_5) | _ => none⟩
theorem st_laws_eqInt64S_5 (n : Nat) (z : s_laws_eqInt64S_5.T) (k : Ex → Live → Option Rv) : loopN ⟨26, 26⟩ lh_laws_eqInt64S_5 (den (tab C0 T_laws_eqInt64S) ⟨26, 26⟩ h_laws_eqInt64S 1 (loopOf Try.f28 4)) (n + 1) (s_laws_eqInt64S_5.enc z) k =
    t_laws_eqInt64S_5 (fun y => loopN ⟨26, 26⟩ lh_laws_eqInt64S_5 (den (tab C0 T_laws_eqInt64S) ⟨26, 26⟩ h_laws_eqInt64S 1 (loopOf Try.f28 4)) n (s_laws_eqInt64S_5.enc y) k) (hK k x_laws_eqInt64S_5) z := by kernel_rfl
theorem hs_laws_eqInt64S : HintsOk (tab C0 T_laws_eqInt64S) ⟨26, 26⟩ h_laws_eqInt64S 1 (loops (codeOf Try.f28)) := by
  have hl : loops (codeOf Try.f28) = [loopOf Try.f28 4] := by kernel_rfl
  rw [hl]
  exact HintsOk.cons (n := 5) (lh := lh_laws_eqInt64S_5) (S := loopX s_laws_eqInt64S_5 x_laws_eqInt64S_5 w_laws_eqInt64S_5) (by kernel_rfl) rfl rfl (loopX_ok nat_laws_eqInt64S_5 st_laws_eqInt64S_5)
    (HintsOk.nil)
def t_laws_eqInt64S {R : Type} (kx : Bool → Option R) (a0 : (List Int)) (a1 : (List Int)) : Option R :=
  cond ((((List.length a0) : Nat) : Int) != (((List.length a1) : Nat) : Int))
  (kx Bool.false)
  (Option.bind (w_laws_eqInt64S_5 (m_laws_eqInt64S_5 a0 a1 (0 : Int))) (exC x_laws_eqInt64S_5
   (fun e711 =>
    kx (e711.1.1.1 : Bool), fun _ =>
    kx Bool.true, ())))
def g_laws_eqInt64S (a0 : (List Int)) (a1 : (List Int)) : Option (Bool) := t_laws_eqInt64S some a0 a1
theorem nat_laws_eqInt64S {R} kx a0 a1 : @t_laws_eqInt64S R kx a0 a1 = (g_laws_eqInt64S a0 a1).bind kx := by
  unfold g_laws_eqInt64S t_laws_eqInt64S
  exact nat_cond (rfl) (nat_exC ⟨fun _ => rfl, fun _ => rfl, trivial⟩)
abbrev k_laws_eqInt64S : Contract := .fx [.val false (.slice (.int .i64)), .val false (.slice (.int .i64))] (Bool) (fun z => g_laws_eqInt64S z.1 z.2.1) (fun b => (.one ⟨false, [(.v (.bool b))]⟩, []))
theorem so_laws_eqInt64S : Sound C0 28 k_laws_eqInt64S :=
  Sound.fx (e := false) (t := T_laws_eqInt64S) (.nil) mixed Try.func28 (by kernel_rfl) (by kernel_rfl) h_laws_eqInt64S 1 hs_laws_eqInt64S (fun z => (by kernel_rfl : _ = t_laws_eqInt64S (fun b => some (k_laws_eqInt64S.enc b)) z.1 z.2.1).trans (nat_laws_eqInt64S _ z.1 z.2.1))

/-! ### F31 laws.markInt64S -/
def T_laws_markInt64S : List (FuncId × Contract) := []
abbrev s_laws_markInt64S_3 : LS := ⟨[(false, [(.view (.arg 0) true 0 (.int .i64))]), (false, [(.int .i64)]), (false, [(.int .i64)])], [], [(.own (.int .i64))]⟩
abbrev e_laws_markInt64S_3_0 : LS := ⟨[(false, [(.int .i64)])], [], [(.own (.int .i64))]⟩
abbrev d_laws_markInt64S_3_0 (v0 : Int) (v1 : List Int) := ((((v0, ()), ()), (), (v1, ())) : e_laws_markInt64S_3_0.T)
abbrev x_laws_markInt64S_3 : List (Ex × LS) := [(.exit 0, e_laws_markInt64S_3_0)]
abbrev m_laws_markInt64S_3 (x0 : List Int) (x1 : Int) (x5 : Int) (o : List Int) := ((((x0, ()), (x1, ()), (x5, ()), ()), (), (o, ())) : s_laws_markInt64S_3.T)
def u_laws_markInt64S_3 {R : Type} (nx : s_laws_markInt64S_3.T → Option R) (hx : exH R x_laws_markInt64S_3) (x0 : List Int) (x1 : Int) (x5 : Int) (o : List Int) : Option R :=
  cond (decide (x5 < (((List.length x0) : Nat) : Int)))
  (Option.bind (idx x0 x5) fun _ =>
   nx (m_laws_markInt64S_3 (List.set x0 (0 + (Int.toNat x5)) x1) (IntKind.wrap IntKind.i64 (x1 + (1 : Int))) (IntKind.wrap IntKind.i64 (x5 + (1 : Int))) (List.set o (0 + (Int.toNat x5)) x1)))
  (hx.1 (d_laws_markInt64S_3_0 x1 o))
def t_laws_markInt64S_3 {R : Type} (nx : s_laws_markInt64S_3.T → Option R) (hx : exH R x_laws_markInt64S_3) (z : s_laws_markInt64S_3.T) : Option R := u_laws_markInt64S_3 nx hx z.1.1.1 z.1.2.1.1 z.1.2.2.1.1 z.2.2.1
theorem nat_laws_markInt64S_3 : Natural @t_laws_markInt64S_3 := fun R nx hx z => by
  show u_laws_markInt64S_3 nx hx z.1.1.1 z.1.2.1.1 z.1.2.2.1.1 z.2.2.1 = (u_laws_markInt64S_3 (fun y => some (.inl y)) (hIn x_laws_markInt64S_3 fun x => some (.inr x)) z.1.1.1 z.1.2.1.1 z.1.2.2.1.1 z.2.2.1).bind (goOn nx hx)
  unfold u_laws_markInt64S_3
  exact nat_cond (nat_bind fun _ => rfl) (rfl)
def w_laws_markInt64S_3 : s_laws_markInt64S_3.T → Option (exT x_laws_markInt64S_3) := wOf @t_laws_markInt64S_3
theorem wq_laws_markInt64S_3 x0 x1 x5 o : w_laws_markInt64S_3 (m_laws_markInt64S_3 x0 x1 x5 o) = u_laws_markInt64S_3 w_laws_markInt64S_3 (hIn x_laws_markInt64S_3 some) x0 x1 x5 o := wOf_eq nat_laws_markInt64S_3 _
def lh_laws_markInt64S_3 : LoopHint := ⟨[0, 1, 5], [], [1], []⟩
def h_laws_markInt64S : Hints Rv := ⟨fun k => match k with | 3 => lh_laws_markInt64S_3 | _ => ⟨[], [], [], []⟩, fun k => match k with | 3 => some (loopX s_laws_markInt64S_3 x_laws_markInt64S_3 w_laws_markInt64S_3) | _ => none⟩
theorem st_laws_markInt64S_3 (n : Nat) (z : s_laws_markInt64S_3.T) (k : Ex → Live → Option Rv) : loopN ⟨19, 19⟩ lh_laws_markInt64S_3 (den (tab C0 T_laws_markInt64S) ⟨19, 19⟩ h_laws_markInt64S 1 (loopOf Try.f31 2)) (n + 1) (s_laws_markInt64S_3.enc z) k =
    t_laws_markInt64S_3 (fun y => loopN ⟨19, 19⟩ lh_laws_markInt64S_3 (den (tab C0 T_laws_markInt64S) ⟨19, 19⟩ h_laws_markInt64S 1 (loopOf Try.f31 2)) n (s_laws_markInt64S_3.enc y) k) (hK k x_laws_markInt64S_3) z := by kernel_rfl
theorem hs_laws_markInt64S : HintsOk (tab C0 T_laws_markInt64S) ⟨19, 19⟩ h_laws_markInt64S 1 (loops (codeOf Try.f31)) := by
  have hl : loops (codeOf Try.f31) = [loopOf Try.f31 2] := by kernel_rfl
  rw [hl]
  exact HintsOk.cons (n := 3) (lh := lh_laws_markInt64S_3) (S := loopX s_laws_markInt64S_3 x_laws_markInt64S_3 w_laws_markInt64S_3) (by kernel_rfl) rfl rfl (loopX_ok nat_laws_markInt64S_3 st_laws_markInt64S_3)
    (HintsOk.nil)
def t_laws_markInt64S {R : Type} (kx : Int × (List Int) → Option R) (a0 : List Int) (a1 : Int) : Option R :=
  Option.bind (w_laws_markInt64S_3 (m_laws_markInt64S_3 a0 a1 (0 : Int) a0)) (exC x_laws_markInt64S_3
  (fun e726 =>
   kx ((e726.1.1.1 : Int), (e726.2.2.1 : List Int)), ()))
def g_laws_markInt64S (a0 : List Int) (a1 : Int) : Option (Int × (List Int)) := t_laws_markInt64S some a0 a1
theorem nat_laws_markInt64S {R} kx a0 a1 : @t_laws_markInt64S R kx a0 a1 = (g_laws_markInt64S a0 a1).bind kx := by
  unfold g_laws_markInt64S t_laws_markInt64S
  exact nat_exC ⟨fun _ => rfl, trivial⟩
abbrev k_laws_markInt64S : Contract := .fx [.io (.int .i64), .val false (.int .i64)] (Int × (List Int)) (fun z => g_laws_markInt64S z.1 z.2.1) (fun b => (.one ⟨false, [(.v (.int .i64 b.1))]⟩, [(.own (.int .i64) b.2)]))
theorem so_laws_markInt64S : Sound C0 31 k_laws_markInt64S :=
  Sound.fx (e := false) (t := T_laws_markInt64S) (.nil) mixed Try.func31 (by kernel_rfl) (by kernel_rfl) h_laws_markInt64S 1 hs_laws_markInt64S (fun z => (by kernel_rfl : _ = t_laws_markInt64S (fun b => some (k_laws_markInt64S.enc b)) z.1 z.2.1).trans (nat_laws_markInt64S _ z.1 z.2.1))

/-! ### F32 laws.heldInt64S -/
def T_laws_heldInt64S : List (FuncId × Contract) := []
abbrev s_laws_heldInt64S_3 : LS := ⟨[(false, [(.sl (.int .i64))]), (false, [(.int .i64)]), (false, [(.int .i64)])], [], []⟩
abbrev e_laws_heldInt64S_3_0 : LS := ⟨[(false, [(.int .i64)]), (false, [(.int .i64)])], [], []⟩
abbrev d_laws_heldInt64S_3_0 (v0 : Int) (v1 : Int) := ((((v0, ()), (v1, ()), ()), (), ()) : e_laws_heldInt64S_3_0.T)
abbrev e_laws_heldInt64S_3_1 : LS := ⟨[(false, [(.int .i64)]), (false, [.undef])], [], []⟩
abbrev d_laws_heldInt64S_3_1 (v0 : Int) := ((((v0, ()), ((), ()), ()), (), ()) : e_laws_heldInt64S_3_1.T)
abbrev x_laws_heldInt64S_3 : List (Ex × LS) := [(.ret, e_laws_heldInt64S_3_0), (.exit 0, e_laws_heldInt64S_3_1)]
abbrev m_laws_heldInt64S_3 (x0 : List Int) (x1 : Int) (x5 : Int) := ((((x0, ()), (x1, ()), (x5, ()), ()), (), ()) : s_laws_heldInt64S_3.T)
def u_laws_heldInt64S_3 {R : Type} (nx : s_laws_heldInt64S_3.T → Option R) (hx : exH R x_laws_heldInt64S_3) (x0 : List Int) (x1 : Int) (x5 : Int) : Option R :=
  cond (decide (x5 < (((List.length x0) : Nat) : Int)))
  (Option.bind (idx x0 x5) fun y738 =>
   cond (y738 != x1)
   (hx.1 (d_laws_heldInt64S_3_0 x1 (-(1 : Int))))
   (nx (m_laws_heldInt64S_3 x0 (IntKind.wrap IntKind.i64 (x1 + (1 : Int))) (IntKind.wrap IntKind.i64 (x5 + (1 : Int))))))
  (hx.2.1 (d_laws_heldInt64S_3_1 x1))
def t_laws_heldInt64S_3 {R : Type} (nx : s_laws_heldInt64S_3.T → Option R) (hx : exH R x_laws_heldInt64S_3) (z : s_laws_heldInt64S_3.T) : Option R := u_laws_heldInt64S_3 nx hx z.1.1.1 z.1.2.1.1 z.1.2.2.1.1
theorem nat_laws_heldInt64S_3 : Natural @t_laws_heldInt64S_3 := fun R nx hx z => by
  show u_laws_heldInt64S_3 nx hx z.1.1.1 z.1.2.1.1 z.1.2.2.1.1 = (u_laws_heldInt64S_3 (fun y => some (.inl y)) (hIn x_laws_heldInt64S_3 fun x => some (.inr x)) z.1.1.1 z.1.2.1.1 z.1.2.2.1.1).bind (goOn nx hx)
  unfold u_laws_heldInt64S_3
  exact nat_cond (nat_bind fun _ => nat_cond (rfl) (rfl)) (rfl)
def w_laws_heldInt64S_3 : s_laws_heldInt64S_3.T → Option (exT x_laws_heldInt64S_3) := wOf @t_laws_heldInt64S_3
theorem wq_laws_heldInt64S_3 x0 x1 x5 : w_laws_heldInt64S_3 (m_laws_heldInt64S_3 x0 x1 x5) = u_laws_heldInt64S_3 w_laws_heldInt64S_3 (hIn x_laws_heldInt64S_3 some) x0 x1 x5 := wOf_eq nat_laws_heldInt64S_3 _
def lh_laws_heldInt64S_3 : LoopHint := ⟨[0, 1, 5], [], [1, 4], []⟩
def h_laws_heldInt64S : Hints Rv := ⟨fun k => match k with | 3 => lh_laws_heldInt64S_3 | _ => ⟨[], [], [], []⟩, fun k => match k with | 3 => some (loopX s_laws_heldInt64S_3 x_laws_heldInt64S_3 w_laws_heldInt64S_3) | _ => none⟩
theorem st_laws_heldInt64S_3 (n : Nat) (z : s_laws_heldInt64S_3.T) (k : Ex → Live → Option Rv) : loopN ⟨21, 21⟩ lh_laws_heldInt64S_3 (den (tab C0 T_laws_heldInt64S) ⟨21, 21⟩ h_laws_heldInt64S 1 (loopOf Try.f32 2)) (n + 1) (s_laws_heldInt64S_3.enc z) k =
    t_laws_heldInt64S_3 (fun y => loopN ⟨21, 21⟩ lh_laws_heldInt64S_3 (den (tab C0 T_laws_heldInt64S) ⟨21, 21⟩ h_laws_heldInt64S 1 (loopOf Try.f32 2)) n (s_laws_heldInt64S_3.enc y) k) (hK k x_laws_heldInt64S_3) z := by kernel_rfl
theorem hs_laws_heldInt64S : HintsOk (tab C0 T_laws_heldInt64S) ⟨21, 21⟩ h_laws_heldInt64S 1 (loops (codeOf Try.f32)) := by
  have hl : loops (codeOf Try.f32) = [loopOf Try.f32 2] := by kernel_rfl
  rw [hl]
  exact HintsOk.cons (n := 3) (lh := lh_laws_heldInt64S_3) (S := loopX s_laws_heldInt64S_3 x_laws_heldInt64S_3 w_laws_heldInt64S_3) (by kernel_rfl) rfl rfl (loopX_ok nat_laws_heldInt64S_3 st_laws_heldInt64S_3)
    (HintsOk.nil)
def t_laws_heldInt64S {R : Type} (kx : Int → Option R) (a0 : (List Int)) (a1 : Int) : Option R :=
  Option.bind (w_laws_heldInt64S_3 (m_laws_heldInt64S_3 a0 a1 (0 : Int))) (exC x_laws_heldInt64S_3
  (fun e739 =>
   kx (e739.1.2.1.1 : Int), fun e742 =>
   kx (e742.1.1.1 : Int), ()))
def g_laws_heldInt64S (a0 : (List Int)) (a1 : Int) : Option (Int) := t_laws_heldInt64S some a0 a1
theorem nat_laws_heldInt64S {R} kx a0 a1 : @t_laws_heldInt64S R kx a0 a1 = (g_laws_heldInt64S a0 a1).bind kx := by
  unfold g_laws_heldInt64S t_laws_heldInt64S
  exact nat_exC ⟨fun _ => rfl, fun _ => rfl, trivial⟩
abbrev k_laws_heldInt64S : Contract := .fx [.val false (.slice (.int .i64)), .val false (.int .i64)] (Int) (fun z => g_laws_heldInt64S z.1 z.2.1) (fun b => (.one ⟨false, [(.v (.int .i64 b))]⟩, []))
theorem so_laws_heldInt64S : Sound C0 32 k_laws_heldInt64S :=
  Sound.fx (e := false) (t := T_laws_heldInt64S) (.nil) mixed Try.func32 (by kernel_rfl) (by kernel_rfl) h_laws_heldInt64S 1 hs_laws_heldInt64S (fun z => (by kernel_rfl : _ = t_laws_heldInt64S (fun b => some (k_laws_heldInt64S.enc b)) z.1 z.2.1).trans (nat_laws_heldInt64S _ z.1 z.2.1))

/-! ### F6 laws.FnExactKindsOfOrder -/
def t_laws_FnExactKindsOfOrder {R : Type} (kx : Bool → Option R) (a0 : (List Int)) (a1 : (List Int)) : Option R :=
  cond (decide ((((List.length a0) : Nat) : Int) > (1048576 : Int)))
  (kx Bool.true)
  (cond (decide ((((List.length a1) : Nat) : Int) > (1048576 : Int)))
   (kx Bool.true)
   (Option.bind (g_laws_toInt64S a0) fun y10 =>
    Option.bind (g_laws_toInt64S a1) fun y11 =>
    Option.bind (g_spec_KindsOfOrder y10 y11) fun y355 =>
    Option.bind (g_laws_toInt64S a0) fun y356 =>
    Option.bind (g_laws_toInt64S a1) fun y357 =>
    Option.bind (g_impl_KindsOfOrder y356 y357) fun y703 =>
    Option.bind (g_laws_eqInt64S y703.1 y355.1) fun y714 =>
    cond (!y714)
    (kx Bool.false)
    (cond (!(y703.2 == y355.2))
     (kx Bool.false)
     (Option.bind (g_laws_toInt64S a0) fun y715 =>
      Option.bind (g_laws_eqInt64S y356 y715) fun y716 =>
      cond (!y716)
      (kx Bool.false)
      (Option.bind (g_laws_toInt64S a1) fun y717 =>
       Option.bind (g_laws_eqInt64S y357 y717) fun y718 =>
       cond (!y718)
       (kx Bool.false)
       (cond (decide ((List.length y356) = (List.length y356)))
        (Option.bind (g_laws_markInt64S y356 (1 : Int)) fun y729 =>
         cond (decide ((List.length y357) = (List.length y357)))
         (Option.bind (g_laws_markInt64S y357 y729.1) fun y730 =>
          cond (decide (y730.1 < (0 : Int)))
          (kx Bool.false)
          (Option.bind (g_laws_eqInt64S y703.1 y355.1) fun y731 =>
           cond (!y731)
           (kx Bool.false)
           (cond (!(y703.2 == y355.2))
            (kx Bool.false)
            (cond (decide ((List.length y703.1) = (List.length y703.1)))
             (Option.bind (g_laws_markInt64S y703.1 (1 : Int)) fun y732 =>
              Option.bind (g_laws_heldInt64S y732.2 (1 : Int)) fun y744 =>
              cond (decide (y744 < (0 : Int)))
              (kx Bool.false)
              (cond (y744 != y732.1)
               (kx Bool.false)
               (Option.bind (g_laws_toInt64S a0) fun y745 =>
                Option.bind (g_laws_toInt64S a1) fun y746 =>
                Option.bind (g_impl_KindsOfOrder y745 y746) fun y747 =>
                Option.bind (g_laws_eqInt64S y747.1 y355.1) fun y748 =>
                cond (!y748)
                (kx Bool.false)
                (cond (!(y747.2 == y355.2))
                 (kx Bool.false)
                 (Option.bind (g_laws_heldInt64S y732.2 (1 : Int)) fun y749 =>
                  cond (decide (y749 < (0 : Int)))
                  (kx Bool.false)
                  (cond (y749 != y732.1)
                   (kx Bool.false)
                   (kx Bool.true)))))))
             (none)))))
         (none))
        (none)))))))
def g_laws_FnExactKindsOfOrder (a0 : (List Int)) (a1 : (List Int)) : Option (Bool) := t_laws_FnExactKindsOfOrder some a0 a1
theorem nat_laws_FnExactKindsOfOrder {R} kx a0 a1 : @t_laws_FnExactKindsOfOrder R kx a0 a1 = (g_laws_FnExactKindsOfOrder a0 a1).bind kx := by
  unfold g_laws_FnExactKindsOfOrder t_laws_FnExactKindsOfOrder
  exact nat_cond (rfl) (nat_cond (rfl) (nat_bind fun _ => nat_bind fun _ => nat_bind fun _ => nat_bind fun _ => nat_bind fun _ => nat_bind fun _ => nat_bind fun _ => nat_cond (rfl) (nat_cond (rfl) (nat_bind fun _ => nat_bind fun _ => nat_cond (rfl) (nat_bind fun _ => nat_bind fun _ => nat_cond (rfl) (nat_cond (nat_bind fun _ => nat_cond (nat_bind fun _ => nat_cond (rfl) (nat_bind fun _ => nat_cond (rfl) (nat_cond (rfl) (nat_cond (nat_bind fun _ => nat_bind fun _ => nat_cond (rfl) (nat_cond (rfl) (nat_bind fun _ => nat_bind fun _ => nat_bind fun _ => nat_bind fun _ => nat_cond (rfl) (nat_cond (rfl) (nat_bind fun _ => nat_cond (rfl) (nat_cond (rfl) (rfl))))))) (rfl))))) (rfl)) (rfl)))))))
abbrev as_laws_FnExactKindsOfOrder : List AX := [.val false (.slice (.int .i64)), .val false (.slice (.int .i64))]
abbrev en_laws_FnExactKindsOfOrder : Bool → AV × List CV := fun b => (.one ⟨false, [(.v (.bool b))]⟩, [])
abbrev k_laws_FnExactKindsOfOrder : Contract := .fx as_laws_FnExactKindsOfOrder (Bool) (fun z => g_laws_FnExactKindsOfOrder z.1 z.2.1) en_laws_FnExactKindsOfOrder
theorem so_laws_FnExactKindsOfOrder : Sound C0 6 k_laws_FnExactKindsOfOrder :=
  Sound.fx (e := false) (.cons so_laws_toInt64S (.cons so_spec_KindsOfOrder (.cons so_impl_KindsOfOrder (.cons so_laws_eqInt64S (.cons so_laws_markInt64S (.cons so_laws_heldInt64S (.nil))))))) mixed Try.func6 (by kernel_rfl) (by kernel_rfl) noHints 1 noHints_ok (fun z => (by kernel_rfl : _ = t_laws_FnExactKindsOfOrder (fun b => some (k_laws_FnExactKindsOfOrder.enc b)) z.1 z.2.1).trans (nat_laws_FnExactKindsOfOrder _ z.1 z.2.1))

end
end Go.Proofs.Ytjfgddmngnkfdaa
