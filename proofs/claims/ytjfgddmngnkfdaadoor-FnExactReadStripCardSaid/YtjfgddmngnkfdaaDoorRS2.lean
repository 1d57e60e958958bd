/- What the functions that ReadStrip reaches compute, printed. No conditions. -/
import Derived.Test.YtjfgddmngnkfdaaDoorW1RS
namespace Go.Proofs.YtjfgddmngnkfdaaDoor
open Go.Vai
set_option maxRecDepth 100000
noncomputable section
variable {ee : EV}

/-! ### F21 spec.l01Digit -/
def t_spec_l01Digit {R : Type} (kx : Bool → Option R) (a0 : Int) : Option R :=
  cond (decide (a0 ≥ (48 : Int)))
  (kx (decide (a0 ≤ (57 : Int))))
  (kx Bool.false)
def g_spec_l01Digit (a0 : Int) : Option (Bool) := t_spec_l01Digit some a0
theorem nat_spec_l01Digit {R} kx a0 : @t_spec_l01Digit R kx a0 = (g_spec_l01Digit a0).bind kx := by
  unfold g_spec_l01Digit t_spec_l01Digit
  exact nat_cond (rfl) (rfl)
abbrev k_spec_l01Digit : Contract := .fx [.val false (.int .u8)] (Bool) (fun z => g_spec_l01Digit z.1) (fun b => (.one ⟨false, [(.v (.bool b))]⟩, []))
theorem so_spec_l01Digit : Sound (C0 ee) 21 k_spec_l01Digit :=
  Sound.fx (e := false) (.nil) mixed Tryd.func21 (by kernel_rfl) (by kernel_rfl) noHints 1 noHints_ok (fun z => (by kernel_rfl : _ = t_spec_l01Digit (fun b => some (k_spec_l01Digit.enc b)) z.1).trans (nat_spec_l01Digit _ z.1))

/-! ### F28 spec.l00In -/
def t_spec_l00In {R : Type} (kx : Bool → Option R) (a0 : Int) (a1 : Int) (a2 : Int) : Option R :=
  cond (decide (a0 ≥ a1))
  (kx (decide (a0 ≤ a2)))
  (kx Bool.false)
def g_spec_l00In (a0 : Int) (a1 : Int) (a2 : Int) : Option (Bool) := t_spec_l00In some a0 a1 a2
theorem nat_spec_l00In {R} kx a0 a1 a2 : @t_spec_l00In R kx a0 a1 a2 = (g_spec_l00In a0 a1 a2).bind kx := by
  unfold g_spec_l00In t_spec_l00In
  exact nat_cond (rfl) (rfl)
abbrev k_spec_l00In : Contract := .fx [.val false (.int .i64), .val false (.int .i64), .val false (.int .i64)] (Bool) (fun z => g_spec_l00In z.1 z.2.1 z.2.2.1) (fun b => (.one ⟨false, [(.v (.bool b))]⟩, []))
theorem so_spec_l00In : Sound (C0 ee) 28 k_spec_l00In :=
  Sound.fx (e := false) (.nil) mixed Tryd.func28 (by kernel_rfl) (by kernel_rfl) noHints 1 noHints_ok (fun z => (by kernel_rfl : _ = t_spec_l00In (fun b => some (k_spec_l00In.enc b)) z.1 z.2.1 z.2.2.1).trans (nat_spec_l00In _ z.1 z.2.1 z.2.2.1))

/-! ### F27 spec.l25Sizes -/
def T_spec_l25Sizes : List (FuncId × Contract) := [(28, k_spec_l00In)]
abbrev s_spec_l25Sizes_6 : LS := ⟨[(false, [(.sl (.int .i64))]), (false, [(.int .i64)]), (false, [(.int .i64)])], [], []⟩
abbrev e_spec_l25Sizes_6_0 : LS := ⟨[(false, [.bool]), (false, [(.int .i64)])], [], []⟩
abbrev d_spec_l25Sizes_6_0 (v0 : Bool) (v1 : Int) := ((((v0, ()), (v1, ()), ()), (), ()) : e_spec_l25Sizes_6_0.T)
abbrev e_spec_l25Sizes_6_1 : LS := ⟨[(false, [.undef]), (false, [(.int .i64)])], [], []⟩
abbrev d_spec_l25Sizes_6_1 (v0 : Int) := (((((), ()), (v0, ()), ()), (), ()) : e_spec_l25Sizes_6_1.T)
abbrev x_spec_l25Sizes_6 : List (Ex × LS) := [(.ret, e_spec_l25Sizes_6_0), (.exit 0, e_spec_l25Sizes_6_1)]
abbrev m_spec_l25Sizes_6 (x0 : List Int) (x3 : Int) (x4 : Int) := ((((x0, ()), (x3, ()), (x4, ()), ()), (), ()) : s_spec_l25Sizes_6.T)
def u_spec_l25Sizes_6 {R : Type} (nx : s_spec_l25Sizes_6.T → Option R) (hx : exH R x_spec_l25Sizes_6) (x0 : List Int) (x3 : Int) (x4 : Int) : Option R :=
  cond (decide (x4 < (((List.length x0) : Nat) : Int)))
  (Option.bind (idx x0 x4) fun y45 =>
   Option.bind (g_spec_l00In y45 (1 : Int) (1000 : Int)) fun y46 =>
   cond (!y46)
   (hx.1 (d_spec_l25Sizes_6_0 Bool.false x3))
   (Option.bind (idx x0 x4) fun y47 =>
    nx (m_spec_l25Sizes_6 x0 (IntKind.wrap IntKind.i64 (x3 + y47)) (IntKind.wrap IntKind.i64 (x4 + (1 : Int))))))
  (hx.2.1 (d_spec_l25Sizes_6_1 x3))
def t_spec_l25Sizes_6 {R : Type} (nx : s_spec_l25Sizes_6.T → Option R) (hx : exH R x_spec_l25Sizes_6) (z : s_spec_l25Sizes_6.T) : Option R := u_spec_l25Sizes_6 nx hx z.1.1.1 z.1.2.1.1 z.1.2.2.1.1
theorem nat_spec_l25Sizes_6 : Natural @t_spec_l25Sizes_6 := fun R nx hx z => by
  show u_spec_l25Sizes_6 nx hx z.1.1.1 z.1.2.1.1 z.1.2.2.1.1 = (u_spec_l25Sizes_6 (fun y => some (.inl y)) (hIn x_spec_l25Sizes_6 fun x => some (.inr x)) z.1.1.1 z.1.2.1.1 z.1.2.2.1.1).bind (goOn nx hx)
  unfold u_spec_l25Sizes_6
  exact nat_cond (nat_bind fun _ => nat_bind fun _ => nat_cond (rfl) (nat_bind fun _ => rfl)) (rfl)
def w_spec_l25Sizes_6 : s_spec_l25Sizes_6.T → Option (exT x_spec_l25Sizes_6) := wOf @t_spec_l25Sizes_6
theorem wq_spec_l25Sizes_6 x0 x3 x4 : w_spec_l25Sizes_6 (m_spec_l25Sizes_6 x0 x3 x4) = u_spec_l25Sizes_6 w_spec_l25Sizes_6 (hIn x_spec_l25Sizes_6 some) x0 x3 x4 := wOf_eq nat_spec_l25Sizes_6 _
def lh_spec_l25Sizes_6 : LoopHint := ⟨[0, 3, 4], [], [2, 3], []⟩
def h_spec_l25Sizes : Hints Rv := ⟨fun k => match k with | 6 => lh_spec_l25Sizes_6 | _ => ⟨[], [], [], []⟩, fun k => match k with | 6 => some (loopX s_spec_l25Sizes_6 x_spec_l25Sizes_6 w_spec_l25Sizes_6) | _ => none⟩
theorem st_spec_l25Sizes_6 (n : Nat) (z : s_spec_l25Sizes_6.T) (k : Ex → Live → Option Rv) : loopN ⟨29, 29⟩ lh_spec_l25Sizes_6 (den (tab (C0 ee) T_spec_l25Sizes) ⟨29, 29⟩ h_spec_l25Sizes 1 (loopOf Tryd.f27 5)) (n + 1) (s_spec_l25Sizes_6.enc z) k =
    t_spec_l25Sizes_6 (fun y => loopN ⟨29, 29⟩ lh_spec_l25Sizes_6 (den (tab (C0 ee) T_spec_l25Sizes) ⟨29, 29⟩ h_spec_l25Sizes 1 (loopOf Tryd.f27 5)) n (s_spec_l25Sizes_6.enc y) k) (hK k x_spec_l25Sizes_6) z := by kernel_rfl
theorem hs_spec_l25Sizes : HintsOk (tab (C0 ee) T_spec_l25Sizes) ⟨29, 29⟩ h_spec_l25Sizes 1 (loops (codeOf Tryd.f27)) := by
  have hl : loops (codeOf Tryd.f27) = [loopOf Tryd.f27 5] := by kernel_rfl
  rw [hl]
  exact HintsOk.cons (n := 6) (lh := lh_spec_l25Sizes_6) (S := loopX s_spec_l25Sizes_6 x_spec_l25Sizes_6 w_spec_l25Sizes_6) (by kernel_rfl) rfl rfl (loopX_ok nat_spec_l25Sizes_6 st_spec_l25Sizes_6)
    (HintsOk.nil)
def t_spec_l25Sizes {R : Type} (kx : Bool → Option R) (a0 : (List Int)) : Option R :=
  Option.bind (g_spec_l00In (((List.length a0) : Nat) : Int) (1 : Int) (14 : Int)) fun y41 =>
  cond (!y41)
  (kx Bool.false)
  (Option.bind (w_spec_l25Sizes_6 (m_spec_l25Sizes_6 a0 (0 : Int) (0 : Int))) (exC x_spec_l25Sizes_6
   (fun e48 =>
    kx (e48.1.1.1 : Bool), fun e51 =>
    kx (decide ((e51.1.2.1.1 : Int) ≤ (1000 : Int))), ())))
def g_spec_l25Sizes (a0 : (List Int)) : Option (Bool) := t_spec_l25Sizes some a0
theorem nat_spec_l25Sizes {R} kx a0 : @t_spec_l25Sizes R kx a0 = (g_spec_l25Sizes a0).bind kx := by
  unfold g_spec_l25Sizes t_spec_l25Sizes
  exact nat_bind fun _ => nat_cond (rfl) (nat_exC ⟨fun _ => rfl, fun _ => rfl, trivial⟩)
abbrev k_spec_l25Sizes : Contract := .fx [.val false (.slice (.int .i64))] (Bool) (fun z => g_spec_l25Sizes z.1) (fun b => (.one ⟨false, [(.v (.bool b))]⟩, []))
theorem so_spec_l25Sizes : Sound (C0 ee) 27 k_spec_l25Sizes :=
  Sound.fx (e := false) (t := T_spec_l25Sizes) (.cons so_spec_l00In (.nil)) mixed Tryd.func27 (by kernel_rfl) (by kernel_rfl) h_spec_l25Sizes 1 hs_spec_l25Sizes (fun z => (by kernel_rfl : _ = t_spec_l25Sizes (fun b => some (k_spec_l25Sizes.enc b)) z.1).trans (nat_spec_l25Sizes _ z.1))

/-! ### F15 spec.l25Ok -/
def T_spec_l25Ok : List (FuncId × Contract) := [(27, k_spec_l25Sizes), (28, k_spec_l00In)]
abbrev s_spec_l25Ok_5 : LS := ⟨[(false, [(.ptr 42 0)]), (false, [(.int .i64)])], [(true, [(.sl (.int .i64)), (.sl (.int .i64))])], []⟩
abbrev e_spec_l25Ok_5_0 : LS := ⟨[(false, [.bool])], [], []⟩
abbrev d_spec_l25Ok_5_0 (v0 : Bool) := ((((v0, ()), ()), (), ()) : e_spec_l25Ok_5_0.T)
abbrev e_spec_l25Ok_5_1 : LS := ⟨[(false, [.undef])], [], []⟩
abbrev d_spec_l25Ok_5_1 := (((((), ()), ()), (), ()) : e_spec_l25Ok_5_1.T)
abbrev x_spec_l25Ok_5 : List (Ex × LS) := [(.ret, e_spec_l25Ok_5_0), (.exit 0, e_spec_l25Ok_5_1)]
abbrev m_spec_l25Ok_5 (x3 : Int) (b0_0 : List Int) (b0_1 : List Int) := (((((), ()), (x3, ()), ()), ((b0_0, b0_1, ()), ()), ()) : s_spec_l25Ok_5.T)
def u_spec_l25Ok_5 {R : Type} (nx : s_spec_l25Ok_5.T → Option R) (hx : exH R x_spec_l25Ok_5) (x3 : Int) (b0_0 : List Int) (b0_1 : List Int) : Option R :=
  cond (decide (x3 < (((List.length b0_1) : Nat) : Int)))
  (Option.bind (idx b0_1 x3) fun y57 =>
   Option.bind (g_spec_l00In y57 (2 : Int) (3 : Int)) fun y58 =>
   cond (!y58)
   (hx.1 (d_spec_l25Ok_5_0 Bool.false))
   (nx (m_spec_l25Ok_5 (IntKind.wrap IntKind.i64 (x3 + (1 : Int))) b0_0 b0_1)))
  (hx.2.1 (d_spec_l25Ok_5_1))
def t_spec_l25Ok_5 {R : Type} (nx : s_spec_l25Ok_5.T → Option R) (hx : exH R x_spec_l25Ok_5) (z : s_spec_l25Ok_5.T) : Option R := u_spec_l25Ok_5 nx hx z.1.2.1.1 z.2.1.1.1 z.2.1.1.2.1
theorem nat_spec_l25Ok_5 : Natural @t_spec_l25Ok_5 := fun R nx hx z => by
  show u_spec_l25Ok_5 nx hx z.1.2.1.1 z.2.1.1.1 z.2.1.1.2.1 = (u_spec_l25Ok_5 (fun y => some (.inl y)) (hIn x_spec_l25Ok_5 fun x => some (.inr x)) z.1.2.1.1 z.2.1.1.1 z.2.1.1.2.1).bind (goOn nx hx)
  unfold u_spec_l25Ok_5
  exact nat_cond (nat_bind fun _ => nat_bind fun _ => nat_cond (rfl) (rfl)) (rfl)
def w_spec_l25Ok_5 : s_spec_l25Ok_5.T → Option (exT x_spec_l25Ok_5) := wOf @t_spec_l25Ok_5
theorem wq_spec_l25Ok_5 x3 b0_0 b0_1 : w_spec_l25Ok_5 (m_spec_l25Ok_5 x3 b0_0 b0_1) = u_spec_l25Ok_5 w_spec_l25Ok_5 (hIn x_spec_l25Ok_5 some) x3 b0_0 b0_1 := wOf_eq nat_spec_l25Ok_5 _
def lh_spec_l25Ok_5 : LoopHint := ⟨[0, 3], [42], [2], []⟩
def h_spec_l25Ok : Hints Rv := ⟨fun k => match k with | 5 => lh_spec_l25Ok_5 | _ => ⟨[], [], [], []⟩, fun k => match k with | 5 => some (loopX s_spec_l25Ok_5 x_spec_l25Ok_5 w_spec_l25Ok_5) | _ => none⟩
theorem st_spec_l25Ok_5 (n : Nat) (z : s_spec_l25Ok_5.T) (k : Ex → Live → Option Rv) : loopN ⟨42, 43⟩ lh_spec_l25Ok_5 (den (tab (C0 ee) T_spec_l25Ok) ⟨42, 43⟩ h_spec_l25Ok 1 (loopOf Tryd.f15 4)) (n + 1) (s_spec_l25Ok_5.enc z) k =
    t_spec_l25Ok_5 (fun y => loopN ⟨42, 43⟩ lh_spec_l25Ok_5 (den (tab (C0 ee) T_spec_l25Ok) ⟨42, 43⟩ h_spec_l25Ok 1 (loopOf Tryd.f15 4)) n (s_spec_l25Ok_5.enc y) k) (hK k x_spec_l25Ok_5) z := by kernel_rfl
theorem hs_spec_l25Ok : HintsOk (tab (C0 ee) T_spec_l25Ok) ⟨42, 43⟩ h_spec_l25Ok 1 (loops (codeOf Tryd.f15)) := by
  have hl : loops (codeOf Tryd.f15) = [loopOf Tryd.f15 4] := by kernel_rfl
  rw [hl]
  exact HintsOk.cons (n := 5) (lh := lh_spec_l25Ok_5) (S := loopX s_spec_l25Ok_5 x_spec_l25Ok_5 w_spec_l25Ok_5) (by kernel_rfl) rfl rfl (loopX_ok nat_spec_l25Ok_5 st_spec_l25Ok_5)
    (HintsOk.nil)
def t_spec_l25Ok {R : Type} (kx : Bool → Option R) (a0 : ((List Int) × (List Int))) : Option R :=
  Option.bind (g_spec_l25Sizes a0.1) fun y53 =>
  cond (!y53)
  (kx Bool.false)
  (cond ((((List.length a0.2) : Nat) : Int) != (IntKind.wrap IntKind.i64 ((((List.length a0.1) : Nat) : Int) - (1 : Int))))
   (kx Bool.false)
   (Option.bind (w_spec_l25Ok_5 (m_spec_l25Ok_5 (0 : Int) a0.1 a0.2)) (exC x_spec_l25Ok_5
    (fun e59 =>
     kx (e59.1.1.1 : Bool), fun _ =>
     kx Bool.true, ()))))
def g_spec_l25Ok (a0 : ((List Int) × (List Int))) : Option (Bool) := t_spec_l25Ok some a0
theorem nat_spec_l25Ok {R} kx a0 : @t_spec_l25Ok R kx a0 = (g_spec_l25Ok a0).bind kx := by
  unfold g_spec_l25Ok t_spec_l25Ok
  exact nat_bind fun _ => nat_cond (rfl) (nat_cond (rfl) (nat_exC ⟨fun _ => rfl, fun _ => rfl, trivial⟩))
abbrev k_spec_l25Ok : Contract := .fx [.ptr (.pair (.slice (.int .i64)) (.slice (.int .i64)))] (Bool) (fun z => g_spec_l25Ok z.1) (fun b => (.one ⟨false, [(.v (.bool b))]⟩, []))
theorem so_spec_l25Ok : Sound (C0 ee) 15 k_spec_l25Ok :=
  Sound.fx (e := false) (t := T_spec_l25Ok) (.cons so_spec_l25Sizes (.cons so_spec_l00In (.nil))) mixed Tryd.func15 (by kernel_rfl) (by kernel_rfl) h_spec_l25Ok 1 hs_spec_l25Ok (fun z => (by kernel_rfl : _ = t_spec_l25Ok (fun b => some (k_spec_l25Ok.enc b)) z.1).trans (nat_spec_l25Ok _ z.1))

def S_spec_l01Dec : Type := (Int) → Option (ByteArray)
def self_spec_l01Dec [Inhabited S_spec_l01Dec] : (Int) → Option (ByteArray) := (default : S_spec_l01Dec)
abbrev k_self_spec_l01Dec [Inhabited S_spec_l01Dec] : Contract := .fx [.val false (.int .i64)] (ByteArray) (fun z => self_spec_l01Dec z.1) (fun b => (.one ⟨false, [(.v (.string b))]⟩, []))
/-! ### F29 spec.l01Dec -/
def T_spec_l01Dec_r [Inhabited S_spec_l01Dec] : List (FuncId × Contract) := [(29, k_self_spec_l01Dec)]
theorem a_spec_l01Dec_r [Inhabited S_spec_l01Dec] (hself : Sound (C0 ee) 29 k_self_spec_l01Dec) : AllSound (C0 ee) T_spec_l01Dec_r := .cons hself (.nil)
def t_spec_l01Dec_r [Inhabited S_spec_l01Dec] {R : Type} (kx : ByteArray → Option R) (a0 : Int) : Option R :=
  cond (decide (a0 < (0 : Int)))
  (cond (decide (a0 > (-(10 : Int))))
   (Option.bind (self_spec_l01Dec (IntKind.wrap IntKind.i64 ((0 : Int) - a0))) fun y70 =>
    cond (decide (((((ByteArray.size (ByteArray.mk (Array.mk [45]))) + (ByteArray.size y70)) : Nat) : Int) > (if (Bool.true = Bool.true) then (((2 : Int) ^ (64 - 1)) - (1 : Int)) else (((2 : Int) ^ 64) - (1 : Int)))))
    (none)
    (kx ((ByteArray.mk (Array.mk [45])) ++ y70)))
   (cond (decide (a0 < (0 : Int)))
    (Option.bind (self_spec_l01Dec (IntKind.wrap IntKind.i64 (Int.tdiv a0 (10 : Int)))) fun y71 =>
     Option.bind (self_spec_l01Dec (IntKind.wrap IntKind.i64 ((0 : Int) - (Int.tmod a0 (10 : Int))))) fun y72 =>
     cond (decide (((((ByteArray.size y71) + (ByteArray.size y72)) : Nat) : Int) > (if (Bool.true = Bool.true) then (((2 : Int) ^ (64 - 1)) - (1 : Int)) else (((2 : Int) ^ 64) - (1 : Int)))))
     (none)
     (kx (y71 ++ y72)))
    (cond (decide (a0 < (10 : Int)))
     (kx (ByteArray.mk (Array.mk [(UInt8.ofNat (Int.toNat (IntKind.wrap IntKind.u8 (IntKind.wrap IntKind.i64 ((48 : Int) + a0)))))])))
     (Option.bind (self_spec_l01Dec (IntKind.wrap IntKind.i64 (Int.tdiv a0 (10 : Int)))) fun y73 =>
      cond (decide (((((ByteArray.size y73) + (ByteArray.size (ByteArray.mk (Array.mk [(UInt8.ofNat (Int.toNat (IntKind.wrap IntKind.u8 (IntKind.wrap IntKind.i64 ((48 : Int) + (Int.tmod a0 (10 : Int)))))))])))) : Nat) : Int) > (if (Bool.true = Bool.true) then (((2 : Int) ^ (64 - 1)) - (1 : Int)) else (((2 : Int) ^ 64) - (1 : Int)))))
      (none)
      (kx (y73 ++ (ByteArray.mk (Array.mk [(UInt8.ofNat (Int.toNat (IntKind.wrap IntKind.u8 (IntKind.wrap IntKind.i64 ((48 : Int) + (Int.tmod a0 (10 : Int)))))))]))))))))
  (cond (decide (a0 < (0 : Int)))
   (Option.bind (self_spec_l01Dec (IntKind.wrap IntKind.i64 (Int.tdiv a0 (10 : Int)))) fun y74 =>
    Option.bind (self_spec_l01Dec (IntKind.wrap IntKind.i64 ((0 : Int) - (Int.tmod a0 (10 : Int))))) fun y75 =>
    cond (decide (((((ByteArray.size y74) + (ByteArray.size y75)) : Nat) : Int) > (if (Bool.true = Bool.true) then (((2 : Int) ^ (64 - 1)) - (1 : Int)) else (((2 : Int) ^ 64) - (1 : Int)))))
    (none)
    (kx (y74 ++ y75)))
   (cond (decide (a0 < (10 : Int)))
    (kx (ByteArray.mk (Array.mk [(UInt8.ofNat (Int.toNat (IntKind.wrap IntKind.u8 (IntKind.wrap IntKind.i64 ((48 : Int) + a0)))))])))
    (Option.bind (self_spec_l01Dec (IntKind.wrap IntKind.i64 (Int.tdiv a0 (10 : Int)))) fun y76 =>
     cond (decide (((((ByteArray.size y76) + (ByteArray.size (ByteArray.mk (Array.mk [(UInt8.ofNat (Int.toNat (IntKind.wrap IntKind.u8 (IntKind.wrap IntKind.i64 ((48 : Int) + (Int.tmod a0 (10 : Int)))))))])))) : Nat) : Int) > (if (Bool.true = Bool.true) then (((2 : Int) ^ (64 - 1)) - (1 : Int)) else (((2 : Int) ^ 64) - (1 : Int)))))
     (none)
     (kx (y76 ++ (ByteArray.mk (Array.mk [(UInt8.ofNat (Int.toNat (IntKind.wrap IntKind.u8 (IntKind.wrap IntKind.i64 ((48 : Int) + (Int.tmod a0 (10 : Int)))))))])))))))
def g_spec_l01Dec_r [Inhabited S_spec_l01Dec] (a0 : Int) : Option (ByteArray) := t_spec_l01Dec_r some a0
theorem nat_spec_l01Dec_r [Inhabited S_spec_l01Dec] {R} kx a0 : @t_spec_l01Dec_r _ R kx a0 = (g_spec_l01Dec_r a0).bind kx := by
  unfold g_spec_l01Dec_r t_spec_l01Dec_r
  exact nat_cond (nat_cond (nat_bind fun _ => nat_cond (rfl) (rfl)) (nat_cond (nat_bind fun _ => nat_bind fun _ => nat_cond (rfl) (rfl)) (nat_cond (rfl) (nat_bind fun _ => nat_cond (rfl) (rfl))))) (nat_cond (nat_bind fun _ => nat_bind fun _ => nat_cond (rfl) (rfl)) (nat_cond (rfl) (nat_bind fun _ => nat_cond (rfl) (rfl))))
abbrev as_spec_l01Dec_r : List AX := [.val false (.int .i64)]
abbrev en_spec_l01Dec_r : ByteArray → AV × List CV := fun b => (.one ⟨false, [(.v (.string b))]⟩, [])
abbrev k_spec_l01Dec_r [Inhabited S_spec_l01Dec] : Contract := .fx as_spec_l01Dec_r (ByteArray) (fun z => g_spec_l01Dec_r z.1) en_spec_l01Dec_r
theorem so_spec_l01Dec_r [Inhabited S_spec_l01Dec] (hself : Sound (C0 ee) 29 k_self_spec_l01Dec) : Sound (C0 ee) 29 k_spec_l01Dec_r :=
  Sound.fx (e := false) (a_spec_l01Dec_r hself) mixed Tryd.func29 (by kernel_rfl) (by kernel_rfl) noHints 1 noHints_ok (fun z => (by kernel_rfl : _ = t_spec_l01Dec_r (fun b => some (k_spec_l01Dec_r.enc b)) z.1).trans (nat_spec_l01Dec_r _ z.1))
def gN_spec_l01Dec : Nat → S_spec_l01Dec
  | 0 => fun _ => none
  | n + 1 => @g_spec_l01Dec_r ⟨gN_spec_l01Dec n⟩
theorem soN_spec_l01Dec : ∀ n, Sound (C0 ee) 29 (.fx [.val false (.int .i64)] (ByteArray) (fun z => gN_spec_l01Dec n z.1) (fun b => (.one ⟨false, [(.v (.string b))]⟩, [])))
  | 0 => Sound.never Tryd.func29 (by kernel_rfl) (by kernel_rfl)
  | n + 1 => @so_spec_l01Dec_r ee ⟨gN_spec_l01Dec n⟩ (soN_spec_l01Dec n)
def g_spec_l01Dec : (Int) → Option (ByteArray) := gN_spec_l01Dec 1000
abbrev as_spec_l01Dec : List AX := [.val false (.int .i64)]
abbrev en_spec_l01Dec : ByteArray → AV × List CV := fun b => (.one ⟨false, [(.v (.string b))]⟩, [])
abbrev k_spec_l01Dec : Contract := .fx as_spec_l01Dec (ByteArray) (fun z => g_spec_l01Dec z.1) en_spec_l01Dec
theorem so_spec_l01Dec : Sound (C0 ee) 29 k_spec_l01Dec := soN_spec_l01Dec 1000

/-! ### F16 spec.l25Text -/
def T_spec_l25Text : List (FuncId × Contract) := [(29, k_spec_l01Dec)]
abbrev s_spec_l25Text_4 : LS := ⟨[(false, [(.ptr 44 0)]), (false, [.str]), (false, [(.int .i64)])], [(true, [(.sl (.int .i64)), (.sl (.int .i64))])], []⟩
abbrev e_spec_l25Text_4_0 : LS := ⟨[(false, [.str])], [], []⟩
abbrev d_spec_l25Text_4_0 (v0 : ByteArray) := ((((v0, ()), ()), (), ()) : e_spec_l25Text_4_0.T)
abbrev x_spec_l25Text_4 : List (Ex × LS) := [(.exit 0, e_spec_l25Text_4_0)]
abbrev m_spec_l25Text_4 (x3 : ByteArray) (x4 : Int) (b0_0 : List Int) (b0_1 : List Int) := (((((), ()), (x3, ()), (x4, ()), ()), ((b0_0, b0_1, ()), ()), ()) : s_spec_l25Text_4.T)
def u_spec_l25Text_4 {R : Type} (nx : s_spec_l25Text_4.T → Option R) (hx : exH R x_spec_l25Text_4) (x3 : ByteArray) (x4 : Int) (b0_0 : List Int) (b0_1 : List Int) : Option R :=
  cond (decide (x4 < (((List.length b0_0) : Nat) : Int)))
  (Option.bind (idx b0_0 x4) fun y68 =>
   Option.bind (g_spec_l01Dec y68) fun y77 =>
   cond (decide (((((ByteArray.size x3) + (ByteArray.size y77)) : Nat) : Int) > (if (Bool.true = Bool.true) then (((2 : Int) ^ (64 - 1)) - (1 : Int)) else (((2 : Int) ^ 64) - (1 : Int)))))
   (none)
   (cond (decide (x4 < (((List.length b0_1) : Nat) : Int)))
    (Option.bind (idx b0_1 x4) fun y78 =>
     cond (y78 == (2 : Int))
     (cond (decide (((((ByteArray.size (x3 ++ y77)) + (ByteArray.size (ByteArray.mk (Array.mk [77])))) : Nat) : Int) > (if (Bool.true = Bool.true) then (((2 : Int) ^ (64 - 1)) - (1 : Int)) else (((2 : Int) ^ 64) - (1 : Int)))))
      (none)
      (nx (m_spec_l25Text_4 ((x3 ++ y77) ++ (ByteArray.mk (Array.mk [77]))) (IntKind.wrap IntKind.i64 (x4 + (1 : Int))) b0_0 b0_1)))
     (cond (decide (((((ByteArray.size (x3 ++ y77)) + (ByteArray.size (ByteArray.mk (Array.mk [86])))) : Nat) : Int) > (if (Bool.true = Bool.true) then (((2 : Int) ^ (64 - 1)) - (1 : Int)) else (((2 : Int) ^ 64) - (1 : Int)))))
      (none)
      (nx (m_spec_l25Text_4 ((x3 ++ y77) ++ (ByteArray.mk (Array.mk [86]))) (IntKind.wrap IntKind.i64 (x4 + (1 : Int))) b0_0 b0_1))))
    (nx (m_spec_l25Text_4 (x3 ++ y77) (IntKind.wrap IntKind.i64 (x4 + (1 : Int))) b0_0 b0_1))))
  (hx.1 (d_spec_l25Text_4_0 x3))
def t_spec_l25Text_4 {R : Type} (nx : s_spec_l25Text_4.T → Option R) (hx : exH R x_spec_l25Text_4) (z : s_spec_l25Text_4.T) : Option R := u_spec_l25Text_4 nx hx z.1.2.1.1 z.1.2.2.1.1 z.2.1.1.1 z.2.1.1.2.1
theorem nat_spec_l25Text_4 : Natural @t_spec_l25Text_4 := fun R nx hx z => by
  show u_spec_l25Text_4 nx hx z.1.2.1.1 z.1.2.2.1.1 z.2.1.1.1 z.2.1.1.2.1 = (u_spec_l25Text_4 (fun y => some (.inl y)) (hIn x_spec_l25Text_4 fun x => some (.inr x)) z.1.2.1.1 z.1.2.2.1.1 z.2.1.1.1 z.2.1.1.2.1).bind (goOn nx hx)
  unfold u_spec_l25Text_4
  exact nat_cond (nat_bind fun _ => nat_bind fun _ => nat_cond (rfl) (nat_cond (nat_bind fun _ => nat_cond (nat_cond (rfl) (rfl)) (nat_cond (rfl) (rfl))) (rfl))) (rfl)
def w_spec_l25Text_4 : s_spec_l25Text_4.T → Option (exT x_spec_l25Text_4) := wOf @t_spec_l25Text_4
theorem wq_spec_l25Text_4 x3 x4 b0_0 b0_1 : w_spec_l25Text_4 (m_spec_l25Text_4 x3 x4 b0_0 b0_1) = u_spec_l25Text_4 w_spec_l25Text_4 (hIn x_spec_l25Text_4 some) x3 x4 b0_0 b0_1 := wOf_eq nat_spec_l25Text_4 _
def lh_spec_l25Text_4 : LoopHint := ⟨[0, 3, 4], [44], [3], []⟩
def h_spec_l25Text : Hints Rv := ⟨fun k => match k with | 4 => lh_spec_l25Text_4 | _ => ⟨[], [], [], []⟩, fun k => match k with | 4 => some (loopX s_spec_l25Text_4 x_spec_l25Text_4 w_spec_l25Text_4) | _ => none⟩
theorem st_spec_l25Text_4 (n : Nat) (z : s_spec_l25Text_4.T) (k : Ex → Live → Option Rv) : loopN ⟨44, 45⟩ lh_spec_l25Text_4 (den (tab (C0 ee) T_spec_l25Text) ⟨44, 45⟩ h_spec_l25Text 1 (loopOf Tryd.f16 3)) (n + 1) (s_spec_l25Text_4.enc z) k =
    t_spec_l25Text_4 (fun y => loopN ⟨44, 45⟩ lh_spec_l25Text_4 (den (tab (C0 ee) T_spec_l25Text) ⟨44, 45⟩ h_spec_l25Text 1 (loopOf Tryd.f16 3)) n (s_spec_l25Text_4.enc y) k) (hK k x_spec_l25Text_4) z := by kernel_rfl
theorem hs_spec_l25Text : HintsOk (tab (C0 ee) T_spec_l25Text) ⟨44, 45⟩ h_spec_l25Text 1 (loops (codeOf Tryd.f16)) := by
  have hl : loops (codeOf Tryd.f16) = [loopOf Tryd.f16 3] := by kernel_rfl
  rw [hl]
  exact HintsOk.cons (n := 4) (lh := lh_spec_l25Text_4) (S := loopX s_spec_l25Text_4 x_spec_l25Text_4 w_spec_l25Text_4) (by kernel_rfl) rfl rfl (loopX_ok nat_spec_l25Text_4 st_spec_l25Text_4)
    (HintsOk.nil)
def t_spec_l25Text {R : Type} (kx : ByteArray → Option R) (a0 : ((List Int) × (List Int))) : Option R :=
  Option.bind (w_spec_l25Text_4 (m_spec_l25Text_4 (ByteArray.mk (Array.mk [])) (0 : Int) a0.1 a0.2)) (exC x_spec_l25Text_4
  (fun e79 =>
   kx (e79.1.1.1 : ByteArray), ()))
def g_spec_l25Text (a0 : ((List Int) × (List Int))) : Option (ByteArray) := t_spec_l25Text some a0
theorem nat_spec_l25Text {R} kx a0 : @t_spec_l25Text R kx a0 = (g_spec_l25Text a0).bind kx := by
  unfold g_spec_l25Text t_spec_l25Text
  exact nat_exC ⟨fun _ => rfl, trivial⟩
abbrev k_spec_l25Text : Contract := .fx [.ptr (.pair (.slice (.int .i64)) (.slice (.int .i64)))] (ByteArray) (fun z => g_spec_l25Text z.1) (fun b => (.one ⟨false, [(.v (.string b))]⟩, []))
theorem so_spec_l25Text : Sound (C0 ee) 16 k_spec_l25Text :=
  Sound.fx (e := false) (t := T_spec_l25Text) (.cons so_spec_l01Dec (.nil)) mixed Tryd.func16 (by kernel_rfl) (by kernel_rfl) h_spec_l25Text 1 hs_spec_l25Text (fun z => (by kernel_rfl : _ = t_spec_l25Text (fun b => some (k_spec_l25Text.enc b)) z.1).trans (nat_spec_l25Text _ z.1))

/-! ### F10 spec.ReadStrip -/
def T_spec_ReadStrip : List (FuncId × Contract) := [(21, k_spec_l01Digit), (15, k_spec_l25Ok), (16, k_spec_l25Text)]
abbrev s_spec_ReadStrip_7 : LS := ⟨[(false, [.str]), (false, [(.ptr 2 0)]), (false, [(.ptr 4 0)]), (false, [(.int .i64)]), (false, [(.int .i64)])], [(false, [(.own (.int .i64)), (.own (.int .i64))]), (false, [(.own (.int .i64)), (.own (.int .i64))])], []⟩
abbrev e_spec_ReadStrip_7_0 : LS := ⟨[(false, [.str]), (false, [(.ptr 2 0)]), (false, [.bool]), (false, [(.ptr 4 0)]), (false, [(.int .i64)])], [(false, [(.own (.int .i64)), (.own (.int .i64))]), (false, [(.own (.int .i64)), (.own (.int .i64))])], []⟩
abbrev d_spec_ReadStrip_7_0 (v0 : ByteArray) (v1 : Bool) (v2 : Int) (v3 : List Int) (v4 : List Int) (v5 : List Int) (v6 : List Int) := ((((v0, ()), ((), ()), (v1, ()), ((), ()), (v2, ()), ()), ((v3, v4, ()), (v5, v6, ()), ()), ()) : e_spec_ReadStrip_7_0.T)
abbrev e_spec_ReadStrip_7_1 : LS := ⟨[(false, [.str]), (false, [(.ptr 2 0)]), (false, [.undef]), (false, [(.ptr 4 0)]), (false, [(.int .i64)])], [(false, [(.own (.int .i64)), (.own (.int .i64))]), (false, [(.own (.int .i64)), (.own (.int .i64))])], []⟩
abbrev d_spec_ReadStrip_7_1 (v0 : ByteArray) (v1 : Int) (v2 : List Int) (v3 : List Int) (v4 : List Int) (v5 : List Int) := ((((v0, ()), ((), ()), ((), ()), ((), ()), (v1, ()), ()), ((v2, v3, ()), (v4, v5, ()), ()), ()) : e_spec_ReadStrip_7_1.T)
abbrev x_spec_ReadStrip_7 : List (Ex × LS) := [(.ret, e_spec_ReadStrip_7_0), (.exit 0, e_spec_ReadStrip_7_1)]
abbrev m_spec_ReadStrip_7 (x0 : ByteArray) (x5 : Int) (x6 : Int) (b0_0 : List Int) (b0_1 : List Int) (b1_0 : List Int) (b1_1 : List Int) := ((((x0, ()), ((), ()), ((), ()), (x5, ()), (x6, ()), ()), ((b0_0, b0_1, ()), (b1_0, b1_1, ()), ()), ()) : s_spec_ReadStrip_7.T)
def u_spec_ReadStrip_7 {R : Type} (nx : s_spec_ReadStrip_7.T → Option R) (hx : exH R x_spec_ReadStrip_7) (x0 : ByteArray) (x5 : Int) (x6 : Int) (b0_0 : List Int) (b0_1 : List Int) (b1_0 : List Int) (b1_1 : List Int) : Option R :=
  cond (decide (x6 < (((ByteArray.size x0) : Nat) : Int)))
  (Option.bind (idxB x0 x6) fun y9 =>
   Option.bind (g_spec_l01Digit (((UInt8.toNat y9) : Nat) : Int)) fun y11 =>
   cond y11
   (cond (decide (x5 ≤ (1000 : Int)))
    (Option.bind (idxB x0 x6) fun y12 =>
     nx (m_spec_ReadStrip_7 x0 (IntKind.wrap IntKind.i64 ((IntKind.wrap IntKind.i64 ((10 : Int) * x5)) + (IntKind.wrap IntKind.i64 (IntKind.wrap IntKind.u8 ((((UInt8.toNat y12) : Nat) : Int) - (48 : Int)))))) (IntKind.wrap IntKind.i64 (x6 + (1 : Int))) b0_0 b0_1 b1_0 b1_1))
    (Option.bind (idxB x0 x6) fun y13 =>
     cond ((((UInt8.toNat y13) : Nat) : Int) == (77 : Int))
     (cond (decide ((((List.length b1_0) + (List.length [x5])) * 8) ≤ 70368744177664))
      (cond (decide (((List.length b1_0) + (List.length [x5])) ≤ 70368744177664))
       (Option.bind (idxB x0 x6) fun y14 =>
        cond ((((UInt8.toNat y14) : Nat) : Int) == (86 : Int))
        (cond (decide ((((List.length b1_1) + (List.length [(3 : Int)])) * 8) ≤ 70368744177664))
         (cond (decide (((List.length b1_1) + (List.length [(3 : Int)])) ≤ 70368744177664))
          (nx (m_spec_ReadStrip_7 x0 (0 : Int) (IntKind.wrap IntKind.i64 (x6 + (1 : Int))) b0_0 b0_1 (b1_0 ++ [x5]) (b1_1 ++ [(3 : Int)])))
          (none))
         (none))
        (cond (decide ((((List.length b1_1) + (List.length [(2 : Int)])) * 8) ≤ 70368744177664))
         (cond (decide (((List.length b1_1) + (List.length [(2 : Int)])) ≤ 70368744177664))
          (nx (m_spec_ReadStrip_7 x0 (0 : Int) (IntKind.wrap IntKind.i64 (x6 + (1 : Int))) b0_0 b0_1 (b1_0 ++ [x5]) (b1_1 ++ [(2 : Int)])))
          (none))
         (none)))
       (none))
      (none))
     (Option.bind (idxB x0 x6) fun y15 =>
      cond ((((UInt8.toNat y15) : Nat) : Int) == (86 : Int))
      (cond (decide ((((List.length b1_0) + (List.length [x5])) * 8) ≤ 70368744177664))
       (cond (decide (((List.length b1_0) + (List.length [x5])) ≤ 70368744177664))
        (Option.bind (idxB x0 x6) fun y16 =>
         cond ((((UInt8.toNat y16) : Nat) : Int) == (86 : Int))
         (cond (decide ((((List.length b1_1) + (List.length [(3 : Int)])) * 8) ≤ 70368744177664))
          (cond (decide (((List.length b1_1) + (List.length [(3 : Int)])) ≤ 70368744177664))
           (nx (m_spec_ReadStrip_7 x0 (0 : Int) (IntKind.wrap IntKind.i64 (x6 + (1 : Int))) b0_0 b0_1 (b1_0 ++ [x5]) (b1_1 ++ [(3 : Int)])))
           (none))
          (none))
         (cond (decide ((((List.length b1_1) + (List.length [(2 : Int)])) * 8) ≤ 70368744177664))
          (cond (decide (((List.length b1_1) + (List.length [(2 : Int)])) ≤ 70368744177664))
           (nx (m_spec_ReadStrip_7 x0 (0 : Int) (IntKind.wrap IntKind.i64 (x6 + (1 : Int))) b0_0 b0_1 (b1_0 ++ [x5]) (b1_1 ++ [(2 : Int)])))
           (none))
          (none)))
        (none))
       (none))
      (hx.1 (d_spec_ReadStrip_7_0 x0 Bool.false x5 [] [] b1_0 b1_1)))))
   (Option.bind (idxB x0 x6) fun y17 =>
    cond ((((UInt8.toNat y17) : Nat) : Int) == (77 : Int))
    (cond (decide ((((List.length b1_0) + (List.length [x5])) * 8) ≤ 70368744177664))
     (cond (decide (((List.length b1_0) + (List.length [x5])) ≤ 70368744177664))
      (Option.bind (idxB x0 x6) fun y18 =>
       cond ((((UInt8.toNat y18) : Nat) : Int) == (86 : Int))
       (cond (decide ((((List.length b1_1) + (List.length [(3 : Int)])) * 8) ≤ 70368744177664))
        (cond (decide (((List.length b1_1) + (List.length [(3 : Int)])) ≤ 70368744177664))
         (nx (m_spec_ReadStrip_7 x0 (0 : Int) (IntKind.wrap IntKind.i64 (x6 + (1 : Int))) b0_0 b0_1 (b1_0 ++ [x5]) (b1_1 ++ [(3 : Int)])))
         (none))
        (none))
       (cond (decide ((((List.length b1_1) + (List.length [(2 : Int)])) * 8) ≤ 70368744177664))
        (cond (decide (((List.length b1_1) + (List.length [(2 : Int)])) ≤ 70368744177664))
         (nx (m_spec_ReadStrip_7 x0 (0 : Int) (IntKind.wrap IntKind.i64 (x6 + (1 : Int))) b0_0 b0_1 (b1_0 ++ [x5]) (b1_1 ++ [(2 : Int)])))
         (none))
        (none)))
      (none))
     (none))
    (Option.bind (idxB x0 x6) fun y19 =>
     cond ((((UInt8.toNat y19) : Nat) : Int) == (86 : Int))
     (cond (decide ((((List.length b1_0) + (List.length [x5])) * 8) ≤ 70368744177664))
      (cond (decide (((List.length b1_0) + (List.length [x5])) ≤ 70368744177664))
       (Option.bind (idxB x0 x6) fun y20 =>
        cond ((((UInt8.toNat y20) : Nat) : Int) == (86 : Int))
        (cond (decide ((((List.length b1_1) + (List.length [(3 : Int)])) * 8) ≤ 70368744177664))
         (cond (decide (((List.length b1_1) + (List.length [(3 : Int)])) ≤ 70368744177664))
          (nx (m_spec_ReadStrip_7 x0 (0 : Int) (IntKind.wrap IntKind.i64 (x6 + (1 : Int))) b0_0 b0_1 (b1_0 ++ [x5]) (b1_1 ++ [(3 : Int)])))
          (none))
         (none))
        (cond (decide ((((List.length b1_1) + (List.length [(2 : Int)])) * 8) ≤ 70368744177664))
         (cond (decide (((List.length b1_1) + (List.length [(2 : Int)])) ≤ 70368744177664))
          (nx (m_spec_ReadStrip_7 x0 (0 : Int) (IntKind.wrap IntKind.i64 (x6 + (1 : Int))) b0_0 b0_1 (b1_0 ++ [x5]) (b1_1 ++ [(2 : Int)])))
          (none))
         (none)))
       (none))
      (none))
     (hx.1 (d_spec_ReadStrip_7_0 x0 Bool.false x5 [] [] b1_0 b1_1)))))
  (hx.2.1 (d_spec_ReadStrip_7_1 x0 x5 b0_0 b0_1 b1_0 b1_1))
def t_spec_ReadStrip_7 {R : Type} (nx : s_spec_ReadStrip_7.T → Option R) (hx : exH R x_spec_ReadStrip_7) (z : s_spec_ReadStrip_7.T) : Option R := u_spec_ReadStrip_7 nx hx z.1.1.1 z.1.2.2.2.1.1 z.1.2.2.2.2.1.1 z.2.1.1.1 z.2.1.1.2.1 z.2.1.2.1.1 z.2.1.2.1.2.1
theorem nat_spec_ReadStrip_7 : Natural @t_spec_ReadStrip_7 := fun R nx hx z => by
  show u_spec_ReadStrip_7 nx hx z.1.1.1 z.1.2.2.2.1.1 z.1.2.2.2.2.1.1 z.2.1.1.1 z.2.1.1.2.1 z.2.1.2.1.1 z.2.1.2.1.2.1 = (u_spec_ReadStrip_7 (fun y => some (.inl y)) (hIn x_spec_ReadStrip_7 fun x => some (.inr x)) z.1.1.1 z.1.2.2.2.1.1 z.1.2.2.2.2.1.1 z.2.1.1.1 z.2.1.1.2.1 z.2.1.2.1.1 z.2.1.2.1.2.1).bind (goOn nx hx)
  unfold u_spec_ReadStrip_7
  exact nat_cond (nat_bind fun _ => nat_bind fun _ => nat_cond (nat_cond (nat_bind fun _ => rfl) (nat_bind fun _ => nat_cond (nat_cond (nat_cond (nat_bind fun _ => nat_cond (nat_cond (nat_cond (rfl) (rfl)) (rfl)) (nat_cond (nat_cond (rfl) (rfl)) (rfl))) (rfl)) (rfl)) (nat_bind fun _ => nat_cond (nat_cond (nat_cond (nat_bind fun _ => nat_cond (nat_cond (nat_cond (rfl) (rfl)) (rfl)) (nat_cond (nat_cond (rfl) (rfl)) (rfl))) (rfl)) (rfl)) (rfl)))) (nat_bind fun _ => nat_cond (nat_cond (nat_cond (nat_bind fun _ => nat_cond (nat_cond (nat_cond (rfl) (rfl)) (rfl)) (nat_cond (nat_cond (rfl) (rfl)) (rfl))) (rfl)) (rfl)) (nat_bind fun _ => nat_cond (nat_cond (nat_cond (nat_bind fun _ => nat_cond (nat_cond (nat_cond (rfl) (rfl)) (rfl)) (nat_cond (nat_cond (rfl) (rfl)) (rfl))) (rfl)) (rfl)) (rfl)))) (rfl)
def w_spec_ReadStrip_7 : s_spec_ReadStrip_7.T → Option (exT x_spec_ReadStrip_7) := wOf @t_spec_ReadStrip_7
theorem wq_spec_ReadStrip_7 x0 x5 x6 b0_0 b0_1 b1_0 b1_1 : w_spec_ReadStrip_7 (m_spec_ReadStrip_7 x0 x5 x6 b0_0 b0_1 b1_0 b1_1) = u_spec_ReadStrip_7 w_spec_ReadStrip_7 (hIn x_spec_ReadStrip_7 some) x0 x5 x6 b0_0 b0_1 b1_0 b1_1 := wOf_eq nat_spec_ReadStrip_7 _
def lh_spec_ReadStrip_7 : LoopHint := ⟨[0, 2, 4, 5, 6], [2, 4], [0, 2, 3, 4, 5], [2, 4]⟩
def h_spec_ReadStrip : Hints Rv := ⟨fun k => match k with | 7 => lh_spec_ReadStrip_7 | _ => ⟨[], [], [], []⟩, fun k => match k with | 7 => some (loopX s_spec_ReadStrip_7 x_spec_ReadStrip_7 w_spec_ReadStrip_7) | _ => none⟩
theorem st_spec_ReadStrip_7 (n : Nat) (z : s_spec_ReadStrip_7.T) (k : Ex → Live → Option Rv) : loopN ⟨79, 79⟩ lh_spec_ReadStrip_7 (den (tab (C0 ee) T_spec_ReadStrip) ⟨79, 79⟩ h_spec_ReadStrip 1 (loopOf Tryd.f10 6)) (n + 1) (s_spec_ReadStrip_7.enc z) k =
    t_spec_ReadStrip_7 (fun y => loopN ⟨79, 79⟩ lh_spec_ReadStrip_7 (den (tab (C0 ee) T_spec_ReadStrip) ⟨79, 79⟩ h_spec_ReadStrip 1 (loopOf Tryd.f10 6)) n (s_spec_ReadStrip_7.enc y) k) (hK k x_spec_ReadStrip_7) z := by kernel_rfl
theorem hs_spec_ReadStrip : HintsOk (tab (C0 ee) T_spec_ReadStrip) ⟨79, 79⟩ h_spec_ReadStrip 1 (loops (codeOf Tryd.f10)) := by
  have hl : loops (codeOf Tryd.f10) = [loopOf Tryd.f10 6] := by kernel_rfl
  rw [hl]
  exact HintsOk.cons (n := 7) (lh := lh_spec_ReadStrip_7) (S := loopX s_spec_ReadStrip_7 x_spec_ReadStrip_7 w_spec_ReadStrip_7) (by kernel_rfl) rfl rfl (loopX_ok nat_spec_ReadStrip_7 st_spec_ReadStrip_7)
    (HintsOk.nil)
def t_spec_ReadStrip {R : Type} (kx : ((List Int) × (List Int)) × Bool → Option R) (a0 : ByteArray) : Option R :=
  cond (decide ((((ByteArray.size a0) : Nat) : Int) > (70 : Int)))
  (kx (([], []), Bool.false))
  (Option.bind (w_spec_ReadStrip_7 (m_spec_ReadStrip_7 a0 (0 : Int) (0 : Int) [] [] [] [])) (exC x_spec_ReadStrip_7
   (fun e21 =>
    kx (((e21.2.1.1.1 : List Int), (e21.2.1.1.2.1 : List Int)), (e21.1.2.2.1.1 : Bool)), fun e29 =>
    cond (decide ((((List.length (e29.2.1.2.1.1 : List Int)) + (List.length [(e29.1.2.2.2.2.1.1 : Int)])) * 8) ≤ 70368744177664))
    (cond (decide (((List.length (e29.2.1.2.1.1 : List Int)) + (List.length [(e29.1.2.2.2.2.1.1 : Int)])) ≤ 70368744177664))
     (Option.bind (g_spec_l25Ok (((e29.2.1.2.1.1 : List Int) ++ [(e29.1.2.2.2.2.1.1 : Int)]), (e29.2.1.2.1.2.1 : List Int))) fun y62 =>
      cond (!y62)
      (kx (([], []), Bool.false))
      (Option.bind (g_spec_l25Text (((e29.2.1.2.1.1 : List Int) ++ [(e29.1.2.2.2.2.1.1 : Int)]), (e29.2.1.2.1.2.1 : List Int))) fun y81 =>
       cond (!((ByteArray.toList y81) == (ByteArray.toList (e29.1.1.1 : ByteArray))))
       (kx (([], []), Bool.false))
       (kx ((((e29.2.1.2.1.1 : List Int) ++ [(e29.1.2.2.2.2.1.1 : Int)]), (e29.2.1.2.1.2.1 : List Int)), Bool.true))))
     (none))
    (none), ())))
def g_spec_ReadStrip (a0 : ByteArray) : Option (((List Int) × (List Int)) × Bool) := t_spec_ReadStrip some a0
theorem nat_spec_ReadStrip {R} kx a0 : @t_spec_ReadStrip R kx a0 = (g_spec_ReadStrip a0).bind kx := by
  unfold g_spec_ReadStrip t_spec_ReadStrip
  exact nat_cond (rfl) (nat_exC ⟨fun _ => rfl, fun _ => nat_cond (nat_cond (nat_bind fun _ => nat_cond (rfl) (nat_bind fun _ => nat_cond (rfl) (rfl))) (rfl)) (rfl), trivial⟩)
abbrev k_spec_ReadStrip : Contract := .fx [.val false .str] (((List Int) × (List Int)) × Bool) (fun z => g_spec_ReadStrip z.1) (fun b => (.tup [⟨true, [(.own (.int .i64) b.1.1), (.own (.int .i64) b.1.2)]⟩, ⟨false, [(.v (.bool b.2))]⟩], []))
theorem so_spec_ReadStrip : Sound (C0 ee) 10 k_spec_ReadStrip :=
  Sound.fx (e := false) (t := T_spec_ReadStrip) (.cons so_spec_l01Digit (.cons so_spec_l25Ok (.cons so_spec_l25Text (.nil)))) mixed Tryd.func10 (by kernel_rfl) (by kernel_rfl) h_spec_ReadStrip 1 hs_spec_ReadStrip (fun z => (by kernel_rfl : _ = t_spec_ReadStrip (fun b => some (k_spec_ReadStrip.enc b)) z.1).trans (nat_spec_ReadStrip _ z.1))

/-! ### F41 impl.length[int64] -/
def t_impl_length_int64 {R : Type} (kx : Int → Option R) (a0 : (List Int)) : Option R :=
  kx (((List.length a0) : Nat) : Int)
def g_impl_length_int64 (a0 : (List Int)) : Option (Int) := t_impl_length_int64 some a0
theorem nat_impl_length_int64 {R} kx a0 : @t_impl_length_int64 R kx a0 = (g_impl_length_int64 a0).bind kx := by
  unfold g_impl_length_int64 t_impl_length_int64
  exact rfl
abbrev k_impl_length_int64 : Contract := .fx [.val false (.slice (.int .i64))] (Int) (fun z => g_impl_length_int64 z.1) (fun b => (.one ⟨false, [(.v (.int .i64 b))]⟩, []))
theorem so_impl_length_int64 : Sound (C0 ee) 41 k_impl_length_int64 :=
  Sound.fx (e := false) (.nil) mixed Tryd.func41 (by kernel_rfl) (by kernel_rfl) noHints 1 noHints_ok (fun z => (by kernel_rfl : _ = t_impl_length_int64 (fun b => some (k_impl_length_int64.enc b)) z.1).trans (nat_impl_length_int64 _ z.1))

/-! ### F33 impl.within -/
def t_impl_within {R : Type} (kx : Bool → Option R) (a0 : Int) (a1 : Int) (a2 : Int) : Option R :=
  cond (decide (a0 ≥ a1))
  (kx (decide (a0 ≤ a2)))
  (kx Bool.false)
def g_impl_within (a0 : Int) (a1 : Int) (a2 : Int) : Option (Bool) := t_impl_within some a0 a1 a2
theorem nat_impl_within {R} kx a0 a1 a2 : @t_impl_within R kx a0 a1 a2 = (g_impl_within a0 a1 a2).bind kx := by
  unfold g_impl_within t_impl_within
  exact nat_cond (rfl) (rfl)
abbrev k_impl_within : Contract := .fx [.val false (.int .i64), .val false (.int .i64), .val false (.int .i64)] (Bool) (fun z => g_impl_within z.1 z.2.1 z.2.2.1) (fun b => (.one ⟨false, [(.v (.bool b))]⟩, []))
theorem so_impl_within : Sound (C0 ee) 33 k_impl_within :=
  Sound.fx (e := false) (.nil) mixed Tryd.func33 (by kernel_rfl) (by kernel_rfl) noHints 1 noHints_ok (fun z => (by kernel_rfl : _ = t_impl_within (fun b => some (k_impl_within.enc b)) z.1 z.2.1 z.2.2.1).trans (nat_impl_within _ z.1 z.2.1 z.2.2.1))

/-! ### F42 impl.areLengths$1 -/
def t_impl_areLengths_1 {R : Type} (kx : Bool → Option R) (a0 : Int) : Option R :=
  Option.bind (g_impl_within a0 (1 : Int) (1000 : Int)) fun y116 =>
  kx (!y116)
def g_impl_areLengths_1 (a0 : Int) : Option (Bool) := t_impl_areLengths_1 some a0
theorem nat_impl_areLengths_1 {R} kx a0 : @t_impl_areLengths_1 R kx a0 = (g_impl_areLengths_1 a0).bind kx := by
  unfold g_impl_areLengths_1 t_impl_areLengths_1
  exact nat_bind fun _ => rfl
abbrev k_impl_areLengths_1 : Contract := .fx [.val false (.int .i64)] (Bool) (fun z => g_impl_areLengths_1 z.1) (fun b => (.one ⟨false, [(.v (.bool b))]⟩, []))
theorem so_impl_areLengths_1 : Sound (C0 ee) 42 k_impl_areLengths_1 :=
  Sound.fx (e := false) (.cons so_impl_within (.nil)) mixed Tryd.func42 (by kernel_rfl) (by kernel_rfl) noHints 1 noHints_ok (fun z => (by kernel_rfl : _ = t_impl_areLengths_1 (fun b => some (k_impl_areLengths_1.enc b)) z.1).trans (nat_impl_areLengths_1 _ z.1))

/-! ### F44 slices.IndexFunc[[]int64,int64] -/
def T_slices_IndexFunc_Sint64_int64__impl_areLengths_1 : List (FuncId × Contract) := [(42, k_impl_areLengths_1)]
abbrev s_slices_IndexFunc_Sint64_int64__impl_areLengths_1_3 : LS := ⟨[(false, [(.sl (.int .i64))]), (false, [(.fn 42 [])]), (false, [(.int .i64)]), (false, [(.int .i64)])], [], []⟩
abbrev e_slices_IndexFunc_Sint64_int64__impl_areLengths_1_3_0 : LS := ⟨[(false, [(.int .i64)])], [], []⟩
abbrev d_slices_IndexFunc_Sint64_int64__impl_areLengths_1_3_0 (v0 : Int) := ((((v0, ()), ()), (), ()) : e_slices_IndexFunc_Sint64_int64__impl_areLengths_1_3_0.T)
abbrev e_slices_IndexFunc_Sint64_int64__impl_areLengths_1_3_1 : LS := ⟨[(false, [.undef])], [], []⟩
abbrev d_slices_IndexFunc_Sint64_int64__impl_areLengths_1_3_1 := (((((), ()), ()), (), ()) : e_slices_IndexFunc_Sint64_int64__impl_areLengths_1_3_1.T)
abbrev x_slices_IndexFunc_Sint64_int64__impl_areLengths_1_3 : List (Ex × LS) := [(.ret, e_slices_IndexFunc_Sint64_int64__impl_areLengths_1_3_0), (.exit 0, e_slices_IndexFunc_Sint64_int64__impl_areLengths_1_3_1)]
abbrev m_slices_IndexFunc_Sint64_int64__impl_areLengths_1_3 (x0 : List Int) (x7 : Int) (x8 : Int) := ((((x0, ()), ((), ()), (x7, ()), (x8, ()), ()), (), ()) : s_slices_IndexFunc_Sint64_int64__impl_areLengths_1_3.T)
def u_slices_IndexFunc_Sint64_int64__impl_areLengths_1_3 {R : Type} (nx : s_slices_IndexFunc_Sint64_int64__impl_areLengths_1_3.T → Option R) (hx : exH R x_slices_IndexFunc_Sint64_int64__impl_areLengths_1_3) (x0 : List Int) (x7 : Int) (x8 : Int) : Option R :=
  cond (decide (x8 < x7))
  (Option.bind (idx x0 x8) fun y114 =>
   Option.bind (g_impl_areLengths_1 y114) fun y117 =>
   cond y117
   (hx.1 (d_slices_IndexFunc_Sint64_int64__impl_areLengths_1_3_0 x8))
   (nx (m_slices_IndexFunc_Sint64_int64__impl_areLengths_1_3 x0 x7 (IntKind.wrap IntKind.i64 (x8 + (1 : Int))))))
  (hx.2.1 (d_slices_IndexFunc_Sint64_int64__impl_areLengths_1_3_1))
def t_slices_IndexFunc_Sint64_int64__impl_areLengths_1_3 {R : Type} (nx : s_slices_IndexFunc_Sint64_int64__impl_areLengths_1_3.T → Option R) (hx : exH R x_slices_IndexFunc_Sint64_int64__impl_areLengths_1_3) (z : s_slices_IndexFunc_Sint64_int64__impl_areLengths_1_3.T) : Option R := u_slices_IndexFunc_Sint64_int64__impl_areLengths_1_3 nx hx z.1.1.1 z.1.2.2.1.1 z.1.2.2.2.1.1
theorem nat_slices_IndexFunc_Sint64_int64__impl_areLengths_1_3 : Natural @t_slices_IndexFunc_Sint64_int64__impl_areLengths_1_3 := fun R nx hx z => by
  show u_slices_IndexFunc_Sint64_int64__impl_areLengths_1_3 nx hx z.1.1.1 z.1.2.2.1.1 z.1.2.2.2.1.1 = (u_slices_IndexFunc_Sint64_int64__impl_areLengths_1_3 (fun y => some (.inl y)) (hIn x_slices_IndexFunc_Sint64_int64__impl_areLengths_1_3 fun x => some (.inr x)) z.1.1.1 z.1.2.2.1.1 z.1.2.2.2.1.1).bind (goOn nx hx)
  unfold u_slices_IndexFunc_Sint64_int64__impl_areLengths_1_3
  exact nat_cond (nat_bind fun _ => nat_bind fun _ => nat_cond (rfl) (rfl)) (rfl)
def w_slices_IndexFunc_Sint64_int64__impl_areLengths_1_3 : s_slices_IndexFunc_Sint64_int64__impl_areLengths_1_3.T → Option (exT x_slices_IndexFunc_Sint64_int64__impl_areLengths_1_3) := wOf @t_slices_IndexFunc_Sint64_int64__impl_areLengths_1_3
theorem wq_slices_IndexFunc_Sint64_int64__impl_areLengths_1_3 x0 x7 x8 : w_slices_IndexFunc_Sint64_int64__impl_areLengths_1_3 (m_slices_IndexFunc_Sint64_int64__impl_areLengths_1_3 x0 x7 x8) = u_slices_IndexFunc_Sint64_int64__impl_areLengths_1_3 w_slices_IndexFunc_Sint64_int64__impl_areLengths_1_3 (hIn x_slices_IndexFunc_Sint64_int64__impl_areLengths_1_3 some) x0 x7 x8 := wOf_eq nat_slices_IndexFunc_Sint64_int64__impl_areLengths_1_3 _
def lh_slices_IndexFunc_Sint64_int64__impl_areLengths_1_3 : LoopHint := ⟨[0, 1, 7, 8], [], [4], []⟩
def h_slices_IndexFunc_Sint64_int64__impl_areLengths_1 : Hints Rv := ⟨fun k => match k with | 3 => lh_slices_IndexFunc_Sint64_int64__impl_areLengths_1_3 | _ => ⟨[], [], [], []⟩, fun k => match k with | 3 => some (loopX s_slices_IndexFunc_Sint64_int64__impl_areLengths_1_3 x_slices_IndexFunc_Sint64_int64__impl_areLengths_1_3 w_slices_IndexFunc_Sint64_int64__impl_areLengths_1_3) | _ => none⟩
theorem st_slices_IndexFunc_Sint64_int64__impl_areLengths_1_3 (n : Nat) (z : s_slices_IndexFunc_Sint64_int64__impl_areLengths_1_3.T) (k : Ex → Live → Option Rv) : loopN ⟨19, 19⟩ lh_slices_IndexFunc_Sint64_int64__impl_areLengths_1_3 (den (tab (C0 ee) T_slices_IndexFunc_Sint64_int64__impl_areLengths_1) ⟨19, 19⟩ h_slices_IndexFunc_Sint64_int64__impl_areLengths_1 1 (loopOf Tryd.f44 2)) (n + 1) (s_slices_IndexFunc_Sint64_int64__impl_areLengths_1_3.enc z) k =
    t_slices_IndexFunc_Sint64_int64__impl_areLengths_1_3 (fun y => loopN ⟨19, 19⟩ lh_slices_IndexFunc_Sint64_int64__impl_areLengths_1_3 (den (tab (C0 ee) T_slices_IndexFunc_Sint64_int64__impl_areLengths_1) ⟨19, 19⟩ h_slices_IndexFunc_Sint64_int64__impl_areLengths_1 1 (loopOf Tryd.f44 2)) n (s_slices_IndexFunc_Sint64_int64__impl_areLengths_1_3.enc y) k) (hK k x_slices_IndexFunc_Sint64_int64__impl_areLengths_1_3) z := by kernel_rfl
theorem hs_slices_IndexFunc_Sint64_int64__impl_areLengths_1 : HintsOk (tab (C0 ee) T_slices_IndexFunc_Sint64_int64__impl_areLengths_1) ⟨19, 19⟩ h_slices_IndexFunc_Sint64_int64__impl_areLengths_1 1 (loops (codeOf Tryd.f44)) := by
  have hl : loops (codeOf Tryd.f44) = [loopOf Tryd.f44 2] := by kernel_rfl
  rw [hl]
  exact HintsOk.cons (n := 3) (lh := lh_slices_IndexFunc_Sint64_int64__impl_areLengths_1_3) (S := loopX s_slices_IndexFunc_Sint64_int64__impl_areLengths_1_3 x_slices_IndexFunc_Sint64_int64__impl_areLengths_1_3 w_slices_IndexFunc_Sint64_int64__impl_areLengths_1_3) (by kernel_rfl) rfl rfl (loopX_ok nat_slices_IndexFunc_Sint64_int64__impl_areLengths_1_3 st_slices_IndexFunc_Sint64_int64__impl_areLengths_1_3)
    (HintsOk.nil)
def t_slices_IndexFunc_Sint64_int64__impl_areLengths_1 {R : Type} (kx : Int → Option R) (a0 : (List Int)) : Option R :=
  Option.bind (w_slices_IndexFunc_Sint64_int64__impl_areLengths_1_3 (m_slices_IndexFunc_Sint64_int64__impl_areLengths_1_3 a0 (((List.length a0) : Nat) : Int) (0 : Int))) (exC x_slices_IndexFunc_Sint64_int64__impl_areLengths_1_3
  (fun e118 =>
   kx (e118.1.1.1 : Int), fun _ =>
   kx (-(1 : Int)), ()))
def g_slices_IndexFunc_Sint64_int64__impl_areLengths_1 (a0 : (List Int)) : Option (Int) := t_slices_IndexFunc_Sint64_int64__impl_areLengths_1 some a0
theorem nat_slices_IndexFunc_Sint64_int64__impl_areLengths_1 {R} kx a0 : @t_slices_IndexFunc_Sint64_int64__impl_areLengths_1 R kx a0 = (g_slices_IndexFunc_Sint64_int64__impl_areLengths_1 a0).bind kx := by
  unfold g_slices_IndexFunc_Sint64_int64__impl_areLengths_1 t_slices_IndexFunc_Sint64_int64__impl_areLengths_1
  exact nat_exC ⟨fun _ => rfl, fun _ => rfl, trivial⟩
abbrev k_slices_IndexFunc_Sint64_int64__impl_areLengths_1 : Contract := .fx [.val false (.slice (.int .i64)), .clo 42 []] (Int) (fun z => g_slices_IndexFunc_Sint64_int64__impl_areLengths_1 z.1) (fun b => (.one ⟨false, [(.v (.int .i64 b))]⟩, []))
theorem so_slices_IndexFunc_Sint64_int64__impl_areLengths_1 : Sound (C0 ee) 44 k_slices_IndexFunc_Sint64_int64__impl_areLengths_1 :=
  Sound.fx (e := false) (t := T_slices_IndexFunc_Sint64_int64__impl_areLengths_1) (.cons so_impl_areLengths_1 (.nil)) mixed Tryd.func44 (by kernel_rfl) (by kernel_rfl) h_slices_IndexFunc_Sint64_int64__impl_areLengths_1 1 hs_slices_IndexFunc_Sint64_int64__impl_areLengths_1 (fun z => (by kernel_rfl : _ = t_slices_IndexFunc_Sint64_int64__impl_areLengths_1 (fun b => some (k_slices_IndexFunc_Sint64_int64__impl_areLengths_1.enc b)) z.1).trans (nat_slices_IndexFunc_Sint64_int64__impl_areLengths_1 _ z.1))

/-! ### F31 slices.ContainsFunc[[]int64,int64] -/
def t_slices_ContainsFunc_Sint64_int64__impl_areLengths_1 {R : Type} (kx : Bool → Option R) (a0 : (List Int)) : Option R :=
  Option.bind (g_slices_IndexFunc_Sint64_int64__impl_areLengths_1 a0) fun y121 =>
  kx (decide (y121 ≥ (0 : Int)))
def g_slices_ContainsFunc_Sint64_int64__impl_areLengths_1 (a0 : (List Int)) : Option (Bool) := t_slices_ContainsFunc_Sint64_int64__impl_areLengths_1 some a0
theorem nat_slices_ContainsFunc_Sint64_int64__impl_areLengths_1 {R} kx a0 : @t_slices_ContainsFunc_Sint64_int64__impl_areLengths_1 R kx a0 = (g_slices_ContainsFunc_Sint64_int64__impl_areLengths_1 a0).bind kx := by
  unfold g_slices_ContainsFunc_Sint64_int64__impl_areLengths_1 t_slices_ContainsFunc_Sint64_int64__impl_areLengths_1
  exact nat_bind fun _ => rfl
abbrev k_slices_ContainsFunc_Sint64_int64__impl_areLengths_1 : Contract := .fx [.val false (.slice (.int .i64)), .clo 42 []] (Bool) (fun z => g_slices_ContainsFunc_Sint64_int64__impl_areLengths_1 z.1) (fun b => (.one ⟨false, [(.v (.bool b))]⟩, []))
theorem so_slices_ContainsFunc_Sint64_int64__impl_areLengths_1 : Sound (C0 ee) 31 k_slices_ContainsFunc_Sint64_int64__impl_areLengths_1 :=
  Sound.fx (e := false) (.cons so_slices_IndexFunc_Sint64_int64__impl_areLengths_1 (.nil)) mixed Tryd.func31 (by kernel_rfl) (by kernel_rfl) noHints 1 noHints_ok (fun z => (by kernel_rfl : _ = t_slices_ContainsFunc_Sint64_int64__impl_areLengths_1 (fun b => some (k_slices_ContainsFunc_Sint64_int64__impl_areLengths_1.enc b)) z.1).trans (nat_slices_ContainsFunc_Sint64_int64__impl_areLengths_1 _ z.1))

/-! ### F43 impl.sumOf -/
def T_impl_sumOf : List (FuncId × Contract) := []
abbrev s_impl_sumOf_4 : LS := ⟨[(false, [(.int .i64)]), (false, [(.sl (.int .i64))]), (false, [(.int .i64)]), (false, [(.int .i64)])], [], []⟩
abbrev e_impl_sumOf_4_0 : LS := ⟨[(false, [(.int .i64)])], [], []⟩
abbrev d_impl_sumOf_4_0 (v0 : Int) := ((((v0, ()), ()), (), ()) : e_impl_sumOf_4_0.T)
abbrev x_impl_sumOf_4 : List (Ex × LS) := [(.exit 0, e_impl_sumOf_4_0)]
abbrev m_impl_sumOf_4 (x3 : Int) (x6 : List Int) (x7 : Int) (x8 : Int) := ((((x3, ()), (x6, ()), (x7, ()), (x8, ()), ()), (), ()) : s_impl_sumOf_4.T)
def u_impl_sumOf_4 {R : Type} (nx : s_impl_sumOf_4.T → Option R) (hx : exH R x_impl_sumOf_4) (x3 : Int) (x6 : List Int) (x7 : Int) (x8 : Int) : Option R :=
  cond (decide (x8 < x7))
  (Option.bind (idx x6 x8) fun y128 =>
   nx (m_impl_sumOf_4 (IntKind.wrap IntKind.i64 (x3 + y128)) x6 x7 (IntKind.wrap IntKind.i64 (x8 + (1 : Int)))))
  (hx.1 (d_impl_sumOf_4_0 x3))
def t_impl_sumOf_4 {R : Type} (nx : s_impl_sumOf_4.T → Option R) (hx : exH R x_impl_sumOf_4) (z : s_impl_sumOf_4.T) : Option R := u_impl_sumOf_4 nx hx z.1.1.1 z.1.2.1.1 z.1.2.2.1.1 z.1.2.2.2.1.1
theorem nat_impl_sumOf_4 : Natural @t_impl_sumOf_4 := fun R nx hx z => by
  show u_impl_sumOf_4 nx hx z.1.1.1 z.1.2.1.1 z.1.2.2.1.1 z.1.2.2.2.1.1 = (u_impl_sumOf_4 (fun y => some (.inl y)) (hIn x_impl_sumOf_4 fun x => some (.inr x)) z.1.1.1 z.1.2.1.1 z.1.2.2.1.1 z.1.2.2.2.1.1).bind (goOn nx hx)
  unfold u_impl_sumOf_4
  exact nat_cond (nat_bind fun _ => rfl) (rfl)
def w_impl_sumOf_4 : s_impl_sumOf_4.T → Option (exT x_impl_sumOf_4) := wOf @t_impl_sumOf_4
theorem wq_impl_sumOf_4 x3 x6 x7 x8 : w_impl_sumOf_4 (m_impl_sumOf_4 x3 x6 x7 x8) = u_impl_sumOf_4 w_impl_sumOf_4 (hIn x_impl_sumOf_4 some) x3 x6 x7 x8 := wOf_eq nat_impl_sumOf_4 _
def lh_impl_sumOf_4 : LoopHint := ⟨[3, 6, 7, 8], [], [3], []⟩
def h_impl_sumOf : Hints Rv := ⟨fun k => match k with | 4 => lh_impl_sumOf_4 | _ => ⟨[], [], [], []⟩, fun k => match k with | 4 => some (loopX s_impl_sumOf_4 x_impl_sumOf_4 w_impl_sumOf_4) | _ => none⟩
theorem st_impl_sumOf_4 (n : Nat) (z : s_impl_sumOf_4.T) (k : Ex → Live → Option Rv) : loopN ⟨17, 17⟩ lh_impl_sumOf_4 (den (tab (C0 ee) T_impl_sumOf) ⟨17, 17⟩ h_impl_sumOf 1 (loopOf Tryd.f43 3)) (n + 1) (s_impl_sumOf_4.enc z) k =
    t_impl_sumOf_4 (fun y => loopN ⟨17, 17⟩ lh_impl_sumOf_4 (den (tab (C0 ee) T_impl_sumOf) ⟨17, 17⟩ h_impl_sumOf 1 (loopOf Tryd.f43 3)) n (s_impl_sumOf_4.enc y) k) (hK k x_impl_sumOf_4) z := by kernel_rfl
theorem hs_impl_sumOf : HintsOk (tab (C0 ee) T_impl_sumOf) ⟨17, 17⟩ h_impl_sumOf 1 (loops (codeOf Tryd.f43)) := by
  have hl : loops (codeOf Tryd.f43) = [loopOf Tryd.f43 3] := by kernel_rfl
  rw [hl]
  exact HintsOk.cons (n := 4) (lh := lh_impl_sumOf_4) (S := loopX s_impl_sumOf_4 x_impl_sumOf_4 w_impl_sumOf_4) (by kernel_rfl) rfl rfl (loopX_ok nat_impl_sumOf_4 st_impl_sumOf_4)
    (HintsOk.nil)
def t_impl_sumOf {R : Type} (kx : Int → Option R) (a0 : (List Int)) : Option R :=
  Option.bind (w_impl_sumOf_4 (m_impl_sumOf_4 (0 : Int) a0 (((List.length a0) : Nat) : Int) (0 : Int))) (exC x_impl_sumOf_4
  (fun e129 =>
   kx (e129.1.1.1 : Int), ()))
def g_impl_sumOf (a0 : (List Int)) : Option (Int) := t_impl_sumOf some a0
theorem nat_impl_sumOf {R} kx a0 : @t_impl_sumOf R kx a0 = (g_impl_sumOf a0).bind kx := by
  unfold g_impl_sumOf t_impl_sumOf
  exact nat_exC ⟨fun _ => rfl, trivial⟩
abbrev k_impl_sumOf : Contract := .fx [.val false (.slice (.int .i64))] (Int) (fun z => g_impl_sumOf z.1) (fun b => (.one ⟨false, [(.v (.int .i64 b))]⟩, []))
theorem so_impl_sumOf : Sound (C0 ee) 43 k_impl_sumOf :=
  Sound.fx (e := false) (t := T_impl_sumOf) (.nil) mixed Tryd.func43 (by kernel_rfl) (by kernel_rfl) h_impl_sumOf 1 hs_impl_sumOf (fun z => (by kernel_rfl : _ = t_impl_sumOf (fun b => some (k_impl_sumOf.enc b)) z.1).trans (nat_impl_sumOf _ z.1))

/-! ### F30 impl.areLengths -/
def t_impl_areLengths {R : Type} (kx : Bool → Option R) (a0 : (List Int)) : Option R :=
  Option.bind (g_impl_length_int64 a0) fun y104 =>
  Option.bind (g_impl_within y104 (1 : Int) (14 : Int)) fun y108 =>
  cond y108
  (Option.bind (g_slices_ContainsFunc_Sint64_int64__impl_areLengths_1 a0) fun y122 =>
   cond (!y122)
   (Option.bind (g_impl_sumOf a0) fun y131 =>
    kx (decide (y131 ≤ (1000 : Int))))
   (kx Bool.false))
  (kx Bool.false)
def g_impl_areLengths (a0 : (List Int)) : Option (Bool) := t_impl_areLengths some a0
theorem nat_impl_areLengths {R} kx a0 : @t_impl_areLengths R kx a0 = (g_impl_areLengths a0).bind kx := by
  unfold g_impl_areLengths t_impl_areLengths
  exact nat_bind fun _ => nat_bind fun _ => nat_cond (nat_bind fun _ => nat_cond (nat_bind fun _ => rfl) (rfl)) (rfl)
abbrev k_impl_areLengths : Contract := .fx [.val false (.slice (.int .i64))] (Bool) (fun z => g_impl_areLengths z.1) (fun b => (.one ⟨false, [(.v (.bool b))]⟩, []))
theorem so_impl_areLengths : Sound (C0 ee) 30 k_impl_areLengths :=
  Sound.fx (e := false) (.cons so_impl_length_int64 (.cons so_impl_within (.cons so_slices_ContainsFunc_Sint64_int64__impl_areLengths_1 (.cons so_impl_sumOf (.nil))))) mixed Tryd.func30 (by kernel_rfl) (by kernel_rfl) noHints 1 noHints_ok (fun z => (by kernel_rfl : _ = t_impl_areLengths (fun b => some (k_impl_areLengths.enc b)) z.1).trans (nat_impl_areLengths _ z.1))

/-! ### F32 impl.ValidStrip$1 -/
def t_impl_ValidStrip_1 {R : Type} (kx : Bool → Option R) (a0 : Int) : Option R :=
  Option.bind (g_impl_within a0 (2 : Int) (3 : Int)) fun y140 =>
  kx (!y140)
def g_impl_ValidStrip_1 (a0 : Int) : Option (Bool) := t_impl_ValidStrip_1 some a0
theorem nat_impl_ValidStrip_1 {R} kx a0 : @t_impl_ValidStrip_1 R kx a0 = (g_impl_ValidStrip_1 a0).bind kx := by
  unfold g_impl_ValidStrip_1 t_impl_ValidStrip_1
  exact nat_bind fun _ => rfl
abbrev k_impl_ValidStrip_1 : Contract := .fx [.val false (.int .i64)] (Bool) (fun z => g_impl_ValidStrip_1 z.1) (fun b => (.one ⟨false, [(.v (.bool b))]⟩, []))
theorem so_impl_ValidStrip_1 : Sound (C0 ee) 32 k_impl_ValidStrip_1 :=
  Sound.fx (e := false) (.cons so_impl_within (.nil)) mixed Tryd.func32 (by kernel_rfl) (by kernel_rfl) noHints 1 noHints_ok (fun z => (by kernel_rfl : _ = t_impl_ValidStrip_1 (fun b => some (k_impl_ValidStrip_1.enc b)) z.1).trans (nat_impl_ValidStrip_1 _ z.1))

/-! ### F44 slices.IndexFunc[[]int64,int64] -/
def T_slices_IndexFunc_Sint64_int64__impl_ValidStrip_1 : List (FuncId × Contract) := [(32, k_impl_ValidStrip_1)]
abbrev s_slices_IndexFunc_Sint64_int64__impl_ValidStrip_1_3 : LS := ⟨[(false, [(.sl (.int .i64))]), (false, [(.fn 32 [])]), (false, [(.int .i64)]), (false, [(.int .i64)])], [], []⟩
abbrev e_slices_IndexFunc_Sint64_int64__impl_ValidStrip_1_3_0 : LS := ⟨[(false, [(.int .i64)])], [], []⟩
abbrev d_slices_IndexFunc_Sint64_int64__impl_ValidStrip_1_3_0 (v0 : Int) := ((((v0, ()), ()), (), ()) : e_slices_IndexFunc_Sint64_int64__impl_ValidStrip_1_3_0.T)
abbrev e_slices_IndexFunc_Sint64_int64__impl_ValidStrip_1_3_1 : LS := ⟨[(false, [.undef])], [], []⟩
abbrev d_slices_IndexFunc_Sint64_int64__impl_ValidStrip_1_3_1 := (((((), ()), ()), (), ()) : e_slices_IndexFunc_Sint64_int64__impl_ValidStrip_1_3_1.T)
abbrev x_slices_IndexFunc_Sint64_int64__impl_ValidStrip_1_3 : List (Ex × LS) := [(.ret, e_slices_IndexFunc_Sint64_int64__impl_ValidStrip_1_3_0), (.exit 0, e_slices_IndexFunc_Sint64_int64__impl_ValidStrip_1_3_1)]
abbrev m_slices_IndexFunc_Sint64_int64__impl_ValidStrip_1_3 (x0 : List Int) (x7 : Int) (x8 : Int) := ((((x0, ()), ((), ()), (x7, ()), (x8, ()), ()), (), ()) : s_slices_IndexFunc_Sint64_int64__impl_ValidStrip_1_3.T)
def u_slices_IndexFunc_Sint64_int64__impl_ValidStrip_1_3 {R : Type} (nx : s_slices_IndexFunc_Sint64_int64__impl_ValidStrip_1_3.T → Option R) (hx : exH R x_slices_IndexFunc_Sint64_int64__impl_ValidStrip_1_3) (x0 : List Int) (x7 : Int) (x8 : Int) : Option R :=
  cond (decide (x8 < x7))
  (Option.bind (idx x0 x8) fun y138 =>
   Option.bind (g_impl_ValidStrip_1 y138) fun y141 =>
   cond y141
   (hx.1 (d_slices_IndexFunc_Sint64_int64__impl_ValidStrip_1_3_0 x8))
   (nx (m_slices_IndexFunc_Sint64_int64__impl_ValidStrip_1_3 x0 x7 (IntKind.wrap IntKind.i64 (x8 + (1 : Int))))))
  (hx.2.1 (d_slices_IndexFunc_Sint64_int64__impl_ValidStrip_1_3_1))
def t_slices_IndexFunc_Sint64_int64__impl_ValidStrip_1_3 {R : Type} (nx : s_slices_IndexFunc_Sint64_int64__impl_ValidStrip_1_3.T → Option R) (hx : exH R x_slices_IndexFunc_Sint64_int64__impl_ValidStrip_1_3) (z : s_slices_IndexFunc_Sint64_int64__impl_ValidStrip_1_3.T) : Option R := u_slices_IndexFunc_Sint64_int64__impl_ValidStrip_1_3 nx hx z.1.1.1 z.1.2.2.1.1 z.1.2.2.2.1.1
theorem nat_slices_IndexFunc_Sint64_int64__impl_ValidStrip_1_3 : Natural @t_slices_IndexFunc_Sint64_int64__impl_ValidStrip_1_3 := fun R nx hx z => by
  show u_slices_IndexFunc_Sint64_int64__impl_ValidStrip_1_3 nx hx z.1.1.1 z.1.2.2.1.1 z.1.2.2.2.1.1 = (u_slices_IndexFunc_Sint64_int64__impl_ValidStrip_1_3 (fun y => some (.inl y)) (hIn x_slices_IndexFunc_Sint64_int64__impl_ValidStrip_1_3 fun x => some (.inr x)) z.1.1.1 z.1.2.2.1.1 z.1.2.2.2.1.1).bind (goOn nx hx)
  unfold u_slices_IndexFunc_Sint64_int64__impl_ValidStrip_1_3
  exact nat_cond (nat_bind fun _ => nat_bind fun _ => nat_cond (rfl) (rfl)) (rfl)
def w_slices_IndexFunc_Sint64_int64__impl_ValidStrip_1_3 : s_slices_IndexFunc_Sint64_int64__impl_ValidStrip_1_3.T → Option (exT x_slices_IndexFunc_Sint64_int64__impl_ValidStrip_1_3) := wOf @t_slices_IndexFunc_Sint64_int64__impl_ValidStrip_1_3
theorem wq_slices_IndexFunc_Sint64_int64__impl_ValidStrip_1_3 x0 x7 x8 : w_slices_IndexFunc_Sint64_int64__impl_ValidStrip_1_3 (m_slices_IndexFunc_Sint64_int64__impl_ValidStrip_1_3 x0 x7 x8) = u_slices_IndexFunc_Sint64_int64__impl_ValidStrip_1_3 w_slices_IndexFunc_Sint64_int64__impl_ValidStrip_1_3 (hIn x_slices_IndexFunc_Sint64_int64__impl_ValidStrip_1_3 some) x0 x7 x8 := wOf_eq nat_slices_IndexFunc_Sint64_int64__impl_ValidStrip_1_3 _
def lh_slices_IndexFunc_Sint64_int64__impl_ValidStrip_1_3 : LoopHint := ⟨[0, 1, 7, 8], [], [4], []⟩
def h_slices_IndexFunc_Sint64_int64__impl_ValidStrip_1 : Hints Rv := ⟨fun k => match k with | 3 => lh_slices_IndexFunc_Sint64_int64__impl_ValidStrip_1_3 | _ => ⟨[], [], [], []⟩, fun k => match k with | 3 => some (loopX s_slices_IndexFunc_Sint64_int64__impl_ValidStrip_1_3 x_slices_IndexFunc_Sint64_int64__impl_ValidStrip_1_3 w_slices_IndexFunc_Sint64_int64__impl_ValidStrip_1_3) | _ => none⟩
theorem st_slices_IndexFunc_Sint64_int64__impl_ValidStrip_1_3 (n : Nat) (z : s_slices_IndexFunc_Sint64_int64__impl_ValidStrip_1_3.T) (k : Ex → Live → Option Rv) : loopN ⟨19, 19⟩ lh_slices_IndexFunc_Sint64_int64__impl_ValidStrip_1_3 (den (tab (C0 ee) T_slices_IndexFunc_Sint64_int64__impl_ValidStrip_1) ⟨19, 19⟩ h_slices_IndexFunc_Sint64_int64__impl_ValidStrip_1 1 (loopOf Tryd.f44 2)) (n + 1) (s_slices_IndexFunc_Sint64_int64__impl_ValidStrip_1_3.enc z) k =
    t_slices_IndexFunc_Sint64_int64__impl_ValidStrip_1_3 (fun y => loopN ⟨19, 19⟩ lh_slices_IndexFunc_Sint64_int64__impl_ValidStrip_1_3 (den (tab (C0 ee) T_slices_IndexFunc_Sint64_int64__impl_ValidStrip_1) ⟨19, 19⟩ h_slices_IndexFunc_Sint64_int64__impl_ValidStrip_1 1 (loopOf Tryd.f44 2)) n (s_slices_IndexFunc_Sint64_int64__impl_ValidStrip_1_3.enc y) k) (hK k x_slices_IndexFunc_Sint64_int64__impl_ValidStrip_1_3) z := by kernel_rfl
theorem hs_slices_IndexFunc_Sint64_int64__impl_ValidStrip_1 : HintsOk (tab (C0 ee) T_slices_IndexFunc_Sint64_int64__impl_ValidStrip_1) ⟨19, 19⟩ h_slices_IndexFunc_Sint64_int64__impl_ValidStrip_1 1 (loops (codeOf Tryd.f44)) := by
  have hl : loops (codeOf Tryd.f44) = [loopOf Tryd.f44 2] := by kernel_rfl
  rw [hl]
  exact HintsOk.cons (n := 3) (lh := lh_slices_IndexFunc_Sint64_int64__impl_ValidStrip_1_3) (S := loopX s_slices_IndexFunc_Sint64_int64__impl_ValidStrip_1_3 x_slices_IndexFunc_Sint64_int64__impl_ValidStrip_1_3 w_slices_IndexFunc_Sint64_int64__impl_ValidStrip_1_3) (by kernel_rfl) rfl rfl (loopX_ok nat_slices_IndexFunc_Sint64_int64__impl_ValidStrip_1_3 st_slices_IndexFunc_Sint64_int64__impl_ValidStrip_1_3)
    (HintsOk.nil)
def t_slices_IndexFunc_Sint64_int64__impl_ValidStrip_1 {R : Type} (kx : Int → Option R) (a0 : (List Int)) : Option R :=
  Option.bind (w_slices_IndexFunc_Sint64_int64__impl_ValidStrip_1_3 (m_slices_IndexFunc_Sint64_int64__impl_ValidStrip_1_3 a0 (((List.length a0) : Nat) : Int) (0 : Int))) (exC x_slices_IndexFunc_Sint64_int64__impl_ValidStrip_1_3
  (fun e142 =>
   kx (e142.1.1.1 : Int), fun _ =>
   kx (-(1 : Int)), ()))
def g_slices_IndexFunc_Sint64_int64__impl_ValidStrip_1 (a0 : (List Int)) : Option (Int) := t_slices_IndexFunc_Sint64_int64__impl_ValidStrip_1 some a0
theorem nat_slices_IndexFunc_Sint64_int64__impl_ValidStrip_1 {R} kx a0 : @t_slices_IndexFunc_Sint64_int64__impl_ValidStrip_1 R kx a0 = (g_slices_IndexFunc_Sint64_int64__impl_ValidStrip_1 a0).bind kx := by
  unfold g_slices_IndexFunc_Sint64_int64__impl_ValidStrip_1 t_slices_IndexFunc_Sint64_int64__impl_ValidStrip_1
  exact nat_exC ⟨fun _ => rfl, fun _ => rfl, trivial⟩
abbrev k_slices_IndexFunc_Sint64_int64__impl_ValidStrip_1 : Contract := .fx [.val false (.slice (.int .i64)), .clo 32 []] (Int) (fun z => g_slices_IndexFunc_Sint64_int64__impl_ValidStrip_1 z.1) (fun b => (.one ⟨false, [(.v (.int .i64 b))]⟩, []))
theorem so_slices_IndexFunc_Sint64_int64__impl_ValidStrip_1 : Sound (C0 ee) 44 k_slices_IndexFunc_Sint64_int64__impl_ValidStrip_1 :=
  Sound.fx (e := false) (t := T_slices_IndexFunc_Sint64_int64__impl_ValidStrip_1) (.cons so_impl_ValidStrip_1 (.nil)) mixed Tryd.func44 (by kernel_rfl) (by kernel_rfl) h_slices_IndexFunc_Sint64_int64__impl_ValidStrip_1 1 hs_slices_IndexFunc_Sint64_int64__impl_ValidStrip_1 (fun z => (by kernel_rfl : _ = t_slices_IndexFunc_Sint64_int64__impl_ValidStrip_1 (fun b => some (k_slices_IndexFunc_Sint64_int64__impl_ValidStrip_1.enc b)) z.1).trans (nat_slices_IndexFunc_Sint64_int64__impl_ValidStrip_1 _ z.1))

/-! ### F31 slices.ContainsFunc[[]int64,int64] -/
def t_slices_ContainsFunc_Sint64_int64__impl_ValidStrip_1 {R : Type} (kx : Bool → Option R) (a0 : (List Int)) : Option R :=
  Option.bind (g_slices_IndexFunc_Sint64_int64__impl_ValidStrip_1 a0) fun y145 =>
  kx (decide (y145 ≥ (0 : Int)))
def g_slices_ContainsFunc_Sint64_int64__impl_ValidStrip_1 (a0 : (List Int)) : Option (Bool) := t_slices_ContainsFunc_Sint64_int64__impl_ValidStrip_1 some a0
theorem nat_slices_ContainsFunc_Sint64_int64__impl_ValidStrip_1 {R} kx a0 : @t_slices_ContainsFunc_Sint64_int64__impl_ValidStrip_1 R kx a0 = (g_slices_ContainsFunc_Sint64_int64__impl_ValidStrip_1 a0).bind kx := by
  unfold g_slices_ContainsFunc_Sint64_int64__impl_ValidStrip_1 t_slices_ContainsFunc_Sint64_int64__impl_ValidStrip_1
  exact nat_bind fun _ => rfl
abbrev k_slices_ContainsFunc_Sint64_int64__impl_ValidStrip_1 : Contract := .fx [.val false (.slice (.int .i64)), .clo 32 []] (Bool) (fun z => g_slices_ContainsFunc_Sint64_int64__impl_ValidStrip_1 z.1) (fun b => (.one ⟨false, [(.v (.bool b))]⟩, []))
theorem so_slices_ContainsFunc_Sint64_int64__impl_ValidStrip_1 : Sound (C0 ee) 31 k_slices_ContainsFunc_Sint64_int64__impl_ValidStrip_1 :=
  Sound.fx (e := false) (.cons so_slices_IndexFunc_Sint64_int64__impl_ValidStrip_1 (.nil)) mixed Tryd.func31 (by kernel_rfl) (by kernel_rfl) noHints 1 noHints_ok (fun z => (by kernel_rfl : _ = t_slices_ContainsFunc_Sint64_int64__impl_ValidStrip_1 (fun b => some (k_slices_ContainsFunc_Sint64_int64__impl_ValidStrip_1.enc b)) z.1).trans (nat_slices_ContainsFunc_Sint64_int64__impl_ValidStrip_1 _ z.1))

/-! ### F18 impl.ValidStrip -/
def t_impl_ValidStrip {R : Type} (kx : Bool → Option R) (a0 : ((List Int) × (List Int))) : Option R :=
  Option.bind (g_impl_areLengths a0.1) fun y132 =>
  cond y132
  (cond ((((List.length a0.2) : Nat) : Int) == (IntKind.wrap IntKind.i64 ((((List.length a0.1) : Nat) : Int) - (1 : Int))))
   (Option.bind (g_slices_ContainsFunc_Sint64_int64__impl_ValidStrip_1 a0.2) fun y146 =>
    kx (!y146))
   (kx Bool.false))
  (kx Bool.false)
def g_impl_ValidStrip (a0 : ((List Int) × (List Int))) : Option (Bool) := t_impl_ValidStrip some a0
theorem nat_impl_ValidStrip {R} kx a0 : @t_impl_ValidStrip R kx a0 = (g_impl_ValidStrip a0).bind kx := by
  unfold g_impl_ValidStrip t_impl_ValidStrip
  exact nat_bind fun _ => nat_cond (nat_cond (nat_bind fun _ => rfl) (rfl)) (rfl)
abbrev k_impl_ValidStrip : Contract := .fx [.val true (.pair (.slice (.int .i64)) (.slice (.int .i64)))] (Bool) (fun z => g_impl_ValidStrip z.1) (fun b => (.one ⟨false, [(.v (.bool b))]⟩, []))
theorem so_impl_ValidStrip : Sound (C0 ee) 18 k_impl_ValidStrip :=
  Sound.fx (e := false) (.cons so_impl_areLengths (.cons so_slices_ContainsFunc_Sint64_int64__impl_ValidStrip_1 (.nil))) mixed Tryd.func18 (by kernel_rfl) (by kernel_rfl) noHints 1 noHints_ok (fun z => (by kernel_rfl : _ = t_impl_ValidStrip (fun b => some (k_impl_ValidStrip.enc b)) z.1).trans (nat_impl_ValidStrip _ z.1))

/-! ### F34 impl.decimal -/
def t_impl_decimal {R : Type} (kx : ByteArray → Option R) (a0 : Int) : Option R :=
  Option.bind (g_strconv_FormatInt a0 (10 : Int)) fun y151 =>
  kx y151
def g_impl_decimal (a0 : Int) : Option (ByteArray) := t_impl_decimal some a0
theorem nat_impl_decimal {R} kx a0 : @t_impl_decimal R kx a0 = (g_impl_decimal a0).bind kx := by
  unfold g_impl_decimal t_impl_decimal
  exact nat_bind fun _ => rfl
abbrev k_impl_decimal : Contract := .fx [.val false (.int .i64)] (ByteArray) (fun z => g_impl_decimal z.1) (fun b => (.one ⟨false, [(.v (.string b))]⟩, []))
theorem so_impl_decimal : Sound (C0 ee) 34 k_impl_decimal :=
  Sound.fx (e := false) (.cons so_strconv_FormatInt (.nil)) mixed Tryd.func34 (by kernel_rfl) (by kernel_rfl) noHints 1 noHints_ok (fun z => (by kernel_rfl : _ = t_impl_decimal (fun b => some (k_impl_decimal.enc b)) z.1).trans (nat_impl_decimal _ z.1))

/-! ### F19 impl.stripText -/
def T_impl_stripText : List (FuncId × Contract) := [(34, k_impl_decimal)]
abbrev s_impl_stripText_4 : LS := ⟨[(false, [(.ptr 1 0)]), (false, [.str]), (false, [(.sl (.int .i64))]), (false, [(.int .i64)]), (false, [(.int .i64)])], [(false, [(.sl (.int .i64)), (.sl (.int .i64))])], []⟩
abbrev e_impl_stripText_4_0 : LS := ⟨[(false, [.str])], [], []⟩
abbrev d_impl_stripText_4_0 (v0 : ByteArray) := ((((v0, ()), ()), (), ()) : e_impl_stripText_4_0.T)
abbrev x_impl_stripText_4 : List (Ex × LS) := [(.exit 0, e_impl_stripText_4_0)]
abbrev m_impl_stripText_4 (x3 : ByteArray) (x12 : List Int) (x13 : Int) (x14 : Int) (b0_0 : List Int) (b0_1 : List Int) := (((((), ()), (x3, ()), (x12, ()), (x13, ()), (x14, ()), ()), ((b0_0, b0_1, ()), ()), ()) : s_impl_stripText_4.T)
def u_impl_stripText_4 {R : Type} (nx : s_impl_stripText_4.T → Option R) (hx : exH R x_impl_stripText_4) (x3 : ByteArray) (x12 : List Int) (x13 : Int) (x14 : Int) (b0_0 : List Int) (b0_1 : List Int) : Option R :=
  cond (decide (x14 < x13))
  (Option.bind (idx x12 x14) fun y159 =>
   cond (decide ((0 : Int) ≤ (IntKind.wrap IntKind.i64 (y159 - (1 : Int)))))
   (cond (decide ((IntKind.wrap IntKind.i64 (y159 - (1 : Int))) ≤ y159))
    (cond (decide (y159 ≤ (((ByteArray.size (ByteArray.mk (Array.mk [66, 77, 86, 79]))) : Nat) : Int)))
     (Option.bind (idx b0_0 (IntKind.wrap IntKind.i64 (x14 + (1 : Int)))) fun y160 =>
      Option.bind (g_impl_decimal y160) fun y161 =>
      cond (decide (((((ByteArray.size (ByteArray.extract (ByteArray.mk (Array.mk [66, 77, 86, 79])) (Int.toNat (IntKind.wrap IntKind.i64 (y159 - (1 : Int)))) (Int.toNat y159))) + (ByteArray.size y161)) : Nat) : Int) > (if (Bool.true = Bool.true) then (((2 : Int) ^ (64 - 1)) - (1 : Int)) else (((2 : Int) ^ 64) - (1 : Int)))))
      (none)
      (cond (decide (((((ByteArray.size x3) + (ByteArray.size ((ByteArray.extract (ByteArray.mk (Array.mk [66, 77, 86, 79])) (Int.toNat (IntKind.wrap IntKind.i64 (y159 - (1 : Int)))) (Int.toNat y159)) ++ y161))) : Nat) : Int) > (if (Bool.true = Bool.true) then (((2 : Int) ^ (64 - 1)) - (1 : Int)) else (((2 : Int) ^ 64) - (1 : Int)))))
       (none)
       (nx (m_impl_stripText_4 (x3 ++ ((ByteArray.extract (ByteArray.mk (Array.mk [66, 77, 86, 79])) (Int.toNat (IntKind.wrap IntKind.i64 (y159 - (1 : Int)))) (Int.toNat y159)) ++ y161)) x12 x13 (IntKind.wrap IntKind.i64 (x14 + (1 : Int))) b0_0 b0_1))))
     (none))
    (none))
   (none))
  (hx.1 (d_impl_stripText_4_0 x3))
def t_impl_stripText_4 {R : Type} (nx : s_impl_stripText_4.T → Option R) (hx : exH R x_impl_stripText_4) (z : s_impl_stripText_4.T) : Option R := u_impl_stripText_4 nx hx z.1.2.1.1 z.1.2.2.1.1 z.1.2.2.2.1.1 z.1.2.2.2.2.1.1 z.2.1.1.1 z.2.1.1.2.1
theorem nat_impl_stripText_4 : Natural @t_impl_stripText_4 := fun R nx hx z => by
  show u_impl_stripText_4 nx hx z.1.2.1.1 z.1.2.2.1.1 z.1.2.2.2.1.1 z.1.2.2.2.2.1.1 z.2.1.1.1 z.2.1.1.2.1 = (u_impl_stripText_4 (fun y => some (.inl y)) (hIn x_impl_stripText_4 fun x => some (.inr x)) z.1.2.1.1 z.1.2.2.1.1 z.1.2.2.2.1.1 z.1.2.2.2.2.1.1 z.2.1.1.1 z.2.1.1.2.1).bind (goOn nx hx)
  unfold u_impl_stripText_4
  exact nat_cond (nat_bind fun _ => nat_cond (nat_cond (nat_cond (nat_bind fun _ => nat_bind fun _ => nat_cond (rfl) (nat_cond (rfl) (rfl))) (rfl)) (rfl)) (rfl)) (rfl)
def w_impl_stripText_4 : s_impl_stripText_4.T → Option (exT x_impl_stripText_4) := wOf @t_impl_stripText_4
theorem wq_impl_stripText_4 x3 x12 x13 x14 b0_0 b0_1 : w_impl_stripText_4 (m_impl_stripText_4 x3 x12 x13 x14 b0_0 b0_1) = u_impl_stripText_4 w_impl_stripText_4 (hIn x_impl_stripText_4 some) x3 x12 x13 x14 b0_0 b0_1 := wOf_eq nat_impl_stripText_4 _
def lh_impl_stripText_4 : LoopHint := ⟨[1, 3, 12, 13, 14], [1], [3], []⟩
def h_impl_stripText : Hints Rv := ⟨fun k => match k with | 4 => lh_impl_stripText_4 | _ => ⟨[], [], [], []⟩, fun k => match k with | 4 => some (loopX s_impl_stripText_4 x_impl_stripText_4 w_impl_stripText_4) | _ => none⟩
theorem st_impl_stripText_4 (n : Nat) (z : s_impl_stripText_4.T) (k : Ex → Live → Option Rv) : loopN ⟨35, 35⟩ lh_impl_stripText_4 (den (tab (C0 ee) T_impl_stripText) ⟨35, 35⟩ h_impl_stripText 1 (loopOf Tryd.f19 3)) (n + 1) (s_impl_stripText_4.enc z) k =
    t_impl_stripText_4 (fun y => loopN ⟨35, 35⟩ lh_impl_stripText_4 (den (tab (C0 ee) T_impl_stripText) ⟨35, 35⟩ h_impl_stripText 1 (loopOf Tryd.f19 3)) n (s_impl_stripText_4.enc y) k) (hK k x_impl_stripText_4) z := by kernel_rfl
theorem hs_impl_stripText : HintsOk (tab (C0 ee) T_impl_stripText) ⟨35, 35⟩ h_impl_stripText 1 (loops (codeOf Tryd.f19)) := by
  have hl : loops (codeOf Tryd.f19) = [loopOf Tryd.f19 3] := by kernel_rfl
  rw [hl]
  exact HintsOk.cons (n := 4) (lh := lh_impl_stripText_4) (S := loopX s_impl_stripText_4 x_impl_stripText_4 w_impl_stripText_4) (by kernel_rfl) rfl rfl (loopX_ok nat_impl_stripText_4 st_impl_stripText_4)
    (HintsOk.nil)
def t_impl_stripText {R : Type} (kx : ByteArray → Option R) (a0 : ((List Int) × (List Int))) : Option R :=
  Option.bind (idx a0.1 (0 : Int)) fun y149 =>
  Option.bind (g_impl_decimal y149) fun y152 =>
  Option.bind (w_impl_stripText_4 (m_impl_stripText_4 y152 a0.2 (((List.length a0.2) : Nat) : Int) (0 : Int) a0.1 a0.2)) (exC x_impl_stripText_4
  (fun e162 =>
   kx (e162.1.1.1 : ByteArray), ()))
def g_impl_stripText (a0 : ((List Int) × (List Int))) : Option (ByteArray) := t_impl_stripText some a0
theorem nat_impl_stripText {R} kx a0 : @t_impl_stripText R kx a0 = (g_impl_stripText a0).bind kx := by
  unfold g_impl_stripText t_impl_stripText
  exact nat_bind fun _ => nat_bind fun _ => nat_exC ⟨fun _ => rfl, trivial⟩
abbrev k_impl_stripText : Contract := .fx [.val true (.pair (.slice (.int .i64)) (.slice (.int .i64)))] (ByteArray) (fun z => g_impl_stripText z.1) (fun b => (.one ⟨false, [(.v (.string b))]⟩, []))
theorem so_impl_stripText : Sound (C0 ee) 19 k_impl_stripText :=
  Sound.fx (e := false) (t := T_impl_stripText) (.cons so_impl_decimal (.nil)) mixed Tryd.func19 (by kernel_rfl) (by kernel_rfl) h_impl_stripText 1 hs_impl_stripText (fun z => (by kernel_rfl : _ = t_impl_stripText (fun b => some (k_impl_stripText.enc b)) z.1).trans (nat_impl_stripText _ z.1))

/-! ### F11 impl.ReadStrip -/
def T_impl_ReadStrip : List (FuncId × Contract) := [(22, k_strings_IndexAny), (23, k_impl_readNumber), (24, k_strings_IndexByte), (18, k_impl_ValidStrip), (19, k_impl_stripText)]
abbrev s_impl_ReadStrip_4 : LS := ⟨[(false, [.str]), (false, [(.ptr 2 0)]), (false, [(.ptr 4 0)]), (false, [.str])], [(false, [(.own (.int .i64)), (.own (.int .i64))]), (false, [(.own (.int .i64)), (.own (.int .i64))])], []⟩
abbrev e_impl_ReadStrip_4_0 : LS := ⟨[(false, [.str]), (false, [(.ptr 2 0)]), (false, [(.ptr 4 0)])], [(false, [(.own (.int .i64)), (.own (.int .i64))]), (false, [(.own (.int .i64)), (.own (.int .i64))])], []⟩
abbrev d_impl_ReadStrip_4_0 (v0 : ByteArray) (v1 : List Int) (v2 : List Int) (v3 : List Int) (v4 : List Int) := ((((v0, ()), ((), ()), ((), ()), ()), ((v1, v2, ()), (v3, v4, ()), ()), ()) : e_impl_ReadStrip_4_0.T)
abbrev x_impl_ReadStrip_4 : List (Ex × LS) := [(.exit 0, e_impl_ReadStrip_4_0)]
abbrev m_impl_ReadStrip_4 (x0 : ByteArray) (x5 : ByteArray) (b0_0 : List Int) (b0_1 : List Int) (b1_0 : List Int) (b1_1 : List Int) := ((((x0, ()), ((), ()), ((), ()), (x5, ()), ()), ((b0_0, b0_1, ()), (b1_0, b1_1, ()), ()), ()) : s_impl_ReadStrip_4.T)
def u_impl_ReadStrip_4 {R : Type} (nx : s_impl_ReadStrip_4.T → Option R) (hx : exH R x_impl_ReadStrip_4) (x0 : ByteArray) (x5 : ByteArray) (b0_0 : List Int) (b0_1 : List Int) (b1_0 : List Int) (b1_1 : List Int) : Option R :=
  Option.bind (g_strings_IndexAny x5 (ByteArray.mk (Array.mk [77, 86]))) fun y90 =>
  cond (decide (y90 < (0 : Int)))
  (Option.bind (g_impl_readNumber x5) fun y91 =>
   cond (decide ((((List.length b1_0) + (List.length [y91.1])) * 8) ≤ 70368744177664))
   (cond (decide (((List.length b1_0) + (List.length [y91.1])) ≤ 70368744177664))
    (hx.1 (d_impl_ReadStrip_4_0 x0 b0_0 b0_1 (b1_0 ++ [y91.1]) b1_1))
    (none))
   (none))
  (cond (decide ((0 : Int) ≤ y90))
   (cond (decide (y90 ≤ (((ByteArray.size x5) : Nat) : Int)))
    (Option.bind (g_impl_readNumber (ByteArray.extract x5 0 (Int.toNat y90))) fun y92 =>
     cond (decide ((((List.length b1_0) + (List.length [y92.1])) * 8) ≤ 70368744177664))
     (cond (decide (((List.length b1_0) + (List.length [y92.1])) ≤ 70368744177664))
      (Option.bind (idxB x5 y90) fun y93 =>
       Option.bind (g_strings_IndexByte (ByteArray.mk (Array.mk [66, 77, 86, 79])) (((UInt8.toNat y93) : Nat) : Int)) fun y94 =>
       cond (decide ((((List.length b1_1) + (List.length [(IntKind.wrap IntKind.i64 (y94 + (1 : Int)))])) * 8) ≤ 70368744177664))
       (cond (decide (((List.length b1_1) + (List.length [(IntKind.wrap IntKind.i64 (y94 + (1 : Int)))])) ≤ 70368744177664))
        (cond (decide ((0 : Int) ≤ (IntKind.wrap IntKind.i64 (y90 + (1 : Int)))))
         (cond (decide ((IntKind.wrap IntKind.i64 (y90 + (1 : Int))) ≤ (((ByteArray.size x5) : Nat) : Int)))
          (nx (m_impl_ReadStrip_4 x0 (ByteArray.extract x5 (Int.toNat (IntKind.wrap IntKind.i64 (y90 + (1 : Int)))) (ByteArray.size x5)) b0_0 b0_1 (b1_0 ++ [y92.1]) (b1_1 ++ [(IntKind.wrap IntKind.i64 (y94 + (1 : Int)))])))
          (none))
         (none))
        (none))
       (none))
      (none))
     (none))
    (none))
   (none))
def t_impl_ReadStrip_4 {R : Type} (nx : s_impl_ReadStrip_4.T → Option R) (hx : exH R x_impl_ReadStrip_4) (z : s_impl_ReadStrip_4.T) : Option R := u_impl_ReadStrip_4 nx hx z.1.1.1 z.1.2.2.2.1.1 z.2.1.1.1 z.2.1.1.2.1 z.2.1.2.1.1 z.2.1.2.1.2.1
theorem nat_impl_ReadStrip_4 : Natural @t_impl_ReadStrip_4 := fun R nx hx z => by
  show u_impl_ReadStrip_4 nx hx z.1.1.1 z.1.2.2.2.1.1 z.2.1.1.1 z.2.1.1.2.1 z.2.1.2.1.1 z.2.1.2.1.2.1 = (u_impl_ReadStrip_4 (fun y => some (.inl y)) (hIn x_impl_ReadStrip_4 fun x => some (.inr x)) z.1.1.1 z.1.2.2.2.1.1 z.2.1.1.1 z.2.1.1.2.1 z.2.1.2.1.1 z.2.1.2.1.2.1).bind (goOn nx hx)
  unfold u_impl_ReadStrip_4
  exact nat_bind fun _ => nat_cond (nat_bind fun _ => nat_cond (nat_cond (rfl) (rfl)) (rfl)) (nat_cond (nat_cond (nat_bind fun _ => nat_cond (nat_cond (nat_bind fun _ => nat_bind fun _ => nat_cond (nat_cond (nat_cond (nat_cond (rfl) (rfl)) (rfl)) (rfl)) (rfl)) (rfl)) (rfl)) (rfl)) (rfl))
def w_impl_ReadStrip_4 : s_impl_ReadStrip_4.T → Option (exT x_impl_ReadStrip_4) := wOf @t_impl_ReadStrip_4
theorem wq_impl_ReadStrip_4 x0 x5 b0_0 b0_1 b1_0 b1_1 : w_impl_ReadStrip_4 (m_impl_ReadStrip_4 x0 x5 b0_0 b0_1 b1_0 b1_1) = u_impl_ReadStrip_4 w_impl_ReadStrip_4 (hIn x_impl_ReadStrip_4 some) x0 x5 b0_0 b0_1 b1_0 b1_1 := wOf_eq nat_impl_ReadStrip_4 _
def lh_impl_ReadStrip_4 : LoopHint := ⟨[0, 2, 4, 5], [2, 4], [0, 2, 4], [2, 4]⟩
def h_impl_ReadStrip : Hints Rv := ⟨fun k => match k with | 4 => lh_impl_ReadStrip_4 | _ => ⟨[], [], [], []⟩, fun k => match k with | 4 => some (loopX s_impl_ReadStrip_4 x_impl_ReadStrip_4 w_impl_ReadStrip_4) | _ => none⟩
theorem st_impl_ReadStrip_4 (n : Nat) (z : s_impl_ReadStrip_4.T) (k : Ex → Live → Option Rv) : loopN ⟨65, 65⟩ lh_impl_ReadStrip_4 (den (tab (C0 ee) T_impl_ReadStrip) ⟨65, 65⟩ h_impl_ReadStrip 1 (loopOf Tryd.f11 3)) (n + 1) (s_impl_ReadStrip_4.enc z) k =
    t_impl_ReadStrip_4 (fun y => loopN ⟨65, 65⟩ lh_impl_ReadStrip_4 (den (tab (C0 ee) T_impl_ReadStrip) ⟨65, 65⟩ h_impl_ReadStrip 1 (loopOf Tryd.f11 3)) n (s_impl_ReadStrip_4.enc y) k) (hK k x_impl_ReadStrip_4) z := by kernel_rfl
theorem hs_impl_ReadStrip : HintsOk (tab (C0 ee) T_impl_ReadStrip) ⟨65, 65⟩ h_impl_ReadStrip 1 (loops (codeOf Tryd.f11)) := by
  have hl : loops (codeOf Tryd.f11) = [loopOf Tryd.f11 3] := by kernel_rfl
  rw [hl]
  exact HintsOk.cons (n := 4) (lh := lh_impl_ReadStrip_4) (S := loopX s_impl_ReadStrip_4 x_impl_ReadStrip_4 w_impl_ReadStrip_4) (by kernel_rfl) rfl rfl (loopX_ok nat_impl_ReadStrip_4 st_impl_ReadStrip_4)
    (HintsOk.nil)
def t_impl_ReadStrip {R : Type} (kx : ((List Int) × (List Int)) × Bool → Option R) (a0 : ByteArray) : Option R :=
  Option.bind (w_impl_ReadStrip_4 (m_impl_ReadStrip_4 a0 a0 [] [] [] [])) (exC x_impl_ReadStrip_4
  (fun e95 =>
   Option.bind (g_impl_ValidStrip ((e95.2.1.2.1.1 : List Int), (e95.2.1.2.1.2.1 : List Int))) fun y147 =>
   cond (!y147)
   (kx (([], []), Bool.false))
   (Option.bind (g_impl_stripText ((e95.2.1.2.1.1 : List Int), (e95.2.1.2.1.2.1 : List Int))) fun y164 =>
    cond (!((ByteArray.toList y164) == (ByteArray.toList (e95.1.1.1 : ByteArray))))
    (kx (([], []), Bool.false))
    (kx (((e95.2.1.2.1.1 : List Int), (e95.2.1.2.1.2.1 : List Int)), Bool.true))), ()))
def g_impl_ReadStrip (a0 : ByteArray) : Option (((List Int) × (List Int)) × Bool) := t_impl_ReadStrip some a0
theorem nat_impl_ReadStrip {R} kx a0 : @t_impl_ReadStrip R kx a0 = (g_impl_ReadStrip a0).bind kx := by
  unfold g_impl_ReadStrip t_impl_ReadStrip
  exact nat_exC ⟨fun _ => nat_bind fun _ => nat_cond (rfl) (nat_bind fun _ => nat_cond (rfl) (rfl)), trivial⟩
abbrev k_impl_ReadStrip : Contract := .fx [.val false .str] (((List Int) × (List Int)) × Bool) (fun z => g_impl_ReadStrip z.1) (fun b => (.tup [⟨true, [(.own (.int .i64) b.1.1), (.own (.int .i64) b.1.2)]⟩, ⟨false, [(.v (.bool b.2))]⟩], []))
theorem so_impl_ReadStrip : Sound (C0 ee) 11 k_impl_ReadStrip :=
  Sound.fx (e := false) (t := T_impl_ReadStrip) (.cons so_strings_IndexAny (.cons so_impl_readNumber (.cons so_strings_IndexByte (.cons so_impl_ValidStrip (.cons so_impl_stripText (.nil)))))) mixed Tryd.func11 (by kernel_rfl) (by kernel_rfl) h_impl_ReadStrip 1 hs_impl_ReadStrip (fun z => (by kernel_rfl : _ = t_impl_ReadStrip (fun b => some (k_impl_ReadStrip.enc b)) z.1).trans (nat_impl_ReadStrip _ z.1))

/-! ### F20 laws.eqInt64S -/
def T_laws_eqInt64S : List (FuncId × Contract) := []
abbrev s_laws_eqInt64S_5 : LS := ⟨[(false, [(.sl (.int .i64))]), (false, [(.sl (.int .i64))]), (false, [(.int .i64)])], [], []⟩
abbrev e_laws_eqInt64S_5_0 : LS := ⟨[(false, [.bool])], [], []⟩
abbrev d_laws_eqInt64S_5_0 (v0 : Bool) := ((((v0, ()), ()), (), ()) : e_laws_eqInt64S_5_0.T)
abbrev e_laws_eqInt64S_5_1 : LS := ⟨[(false, [.undef])], [], []⟩
abbrev d_laws_eqInt64S_5_1 := (((((), ()), ()), (), ()) : e_laws_eqInt64S_5_1.T)
abbrev x_laws_eqInt64S_5 : List (Ex × LS) := [(.ret, e_laws_eqInt64S_5_0), (.exit 0, e_laws_eqInt64S_5_1)]
abbrev m_laws_eqInt64S_5 (x0 : List Int) (x1 : List Int) (x5 : Int) := ((((x0, ()), (x1, ()), (x5, ()), ()), (), ()) : s_laws_eqInt64S_5.T)
def u_laws_eqInt64S_5 {R : Type} (nx : s_laws_eqInt64S_5.T → Option R) (hx : exH R x_laws_eqInt64S_5) (x0 : List Int) (x1 : List Int) (x5 : Int) : Option R :=
  cond (decide (x5 < (((List.length x0) : Nat) : Int)))
  (Option.bind (idx x0 x5) fun y173 =>
   Option.bind (idx x1 x5) fun y174 =>
   cond (y173 != y174)
   (hx.1 (d_laws_eqInt64S_5_0 Bool.false))
   (nx (m_laws_eqInt64S_5 x0 x1 (IntKind.wrap IntKind.i64 (x5 + (1 : Int))))))
  (hx.2.1 (d_laws_eqInt64S_5_1))
def t_laws_eqInt64S_5 {R : Type} (nx : s_laws_eqInt64S_5.T → Option R) (hx : exH R x_laws_eqInt64S_5) (z : s_laws_eqInt64S_5.T) : Option R := u_laws_eqInt64S_5 nx hx z.1.1.1 z.1.2.1.1 z.1.2.2.1.1
theorem nat_laws_eqInt64S_5 : Natural @t_laws_eqInt64S_5 := fun R nx hx z => by
  show u_laws_eqInt64S_5 nx hx z.1.1.1 z.1.2.1.1 z.1.2.2.1.1 = (u_laws_eqInt64S_5 (fun y => some (.inl y)) (hIn x_laws_eqInt64S_5 fun x => some (.inr x)) z.1.1.1 z.1.2.1.1 z.1.2.2.1.1).bind (goOn nx hx)
  unfold u_laws_eqInt64S_5
  exact nat_cond (nat_bind fun _ => nat_bind fun _ => nat_cond (rfl) (rfl)) (rfl)
def w_laws_eqInt64S_5 : s_laws_eqInt64S_5.T → Option (exT x_laws_eqInt64S_5) := wOf @t_laws_eqInt64S_5
theorem wq_laws_eqInt64S_5 x0 x1 x5 : w_laws_eqInt64S_5 (m_laws_eqInt64S_5 x0 x1 x5) = u_laws_eqInt64S_5 w_laws_eqInt64S_5 (hIn x_laws_eqInt64S_5 some) x0 x1 x5 := wOf_eq nat_laws_eqInt64S_5 _
def lh_laws_eqInt64S_5 : LoopHint := ⟨[0, 1, 5], [], [4], []⟩
def h_laws_eqInt64S : Hints Rv := ⟨fun k => match k with | 5 => lh_laws_eqInt64S_5 | _ => ⟨[], [], [], []⟩, fun k => match k with | 5 => some (loopX s_laws_eqInt64S_5 x_laws_eqInt64S_5 w_laws_eqInt64S_5) | _ => none⟩
theorem st_laws_eqInt64S_5 (n : Nat) (z : s_laws_eqInt64S_5.T) (k : Ex → Live → Option Rv) : loopN ⟨26, 26⟩ lh_laws_eqInt64S_5 (den (tab (C0 ee) T_laws_eqInt64S) ⟨26, 26⟩ h_laws_eqInt64S 1 (loopOf Tryd.f20 4)) (n + 1) (s_laws_eqInt64S_5.enc z) k =
    t_laws_eqInt64S_5 (fun y => loopN ⟨26, 26⟩ lh_laws_eqInt64S_5 (den (tab (C0 ee) T_laws_eqInt64S) ⟨26, 26⟩ h_laws_eqInt64S 1 (loopOf Tryd.f20 4)) n (s_laws_eqInt64S_5.enc y) k) (hK k x_laws_eqInt64S_5) z := by kernel_rfl
theorem hs_laws_eqInt64S : HintsOk (tab (C0 ee) T_laws_eqInt64S) ⟨26, 26⟩ h_laws_eqInt64S 1 (loops (codeOf Tryd.f20)) := by
  have hl : loops (codeOf Tryd.f20) = [loopOf Tryd.f20 4] := by kernel_rfl
  rw [hl]
  exact HintsOk.cons (n := 5) (lh := lh_laws_eqInt64S_5) (S := loopX s_laws_eqInt64S_5 x_laws_eqInt64S_5 w_laws_eqInt64S_5) (by kernel_rfl) rfl rfl (loopX_ok nat_laws_eqInt64S_5 st_laws_eqInt64S_5)
    (HintsOk.nil)
def t_laws_eqInt64S {R : Type} (kx : Bool → Option R) (a0 : (List Int)) (a1 : (List Int)) : Option R :=
  cond ((((List.length a0) : Nat) : Int) != (((List.length a1) : Nat) : Int))
  (kx Bool.false)
  (Option.bind (w_laws_eqInt64S_5 (m_laws_eqInt64S_5 a0 a1 (0 : Int))) (exC x_laws_eqInt64S_5
   (fun e175 =>
    kx (e175.1.1.1 : Bool), fun _ =>
    kx Bool.true, ())))
def g_laws_eqInt64S (a0 : (List Int)) (a1 : (List Int)) : Option (Bool) := t_laws_eqInt64S some a0 a1
theorem nat_laws_eqInt64S {R} kx a0 a1 : @t_laws_eqInt64S R kx a0 a1 = (g_laws_eqInt64S a0 a1).bind kx := by
  unfold g_laws_eqInt64S t_laws_eqInt64S
  exact nat_cond (rfl) (nat_exC ⟨fun _ => rfl, fun _ => rfl, trivial⟩)
abbrev k_laws_eqInt64S : Contract := .fx [.val false (.slice (.int .i64)), .val false (.slice (.int .i64))] (Bool) (fun z => g_laws_eqInt64S z.1 z.2.1) (fun b => (.one ⟨false, [(.v (.bool b))]⟩, []))
theorem so_laws_eqInt64S : Sound (C0 ee) 20 k_laws_eqInt64S :=
  Sound.fx (e := false) (t := T_laws_eqInt64S) (.nil) mixed Tryd.func20 (by kernel_rfl) (by kernel_rfl) h_laws_eqInt64S 1 hs_laws_eqInt64S (fun z => (by kernel_rfl : _ = t_laws_eqInt64S (fun b => some (k_laws_eqInt64S.enc b)) z.1 z.2.1).trans (nat_laws_eqInt64S _ z.1 z.2.1))

/-! ### F9 laws.eqStrip -/
def t_laws_eqStrip {R : Type} (kx : Bool → Option R) (a0 : ((List Int) × (List Int))) (a1 : ((List Int) × (List Int))) : Option R :=
  Option.bind (g_laws_eqInt64S a0.1 a1.1) fun y178 =>
  cond (!y178)
  (kx Bool.false)
  (Option.bind (g_laws_eqInt64S a0.2 a1.2) fun y179 =>
   cond (!y179)
   (kx Bool.false)
   (kx Bool.true))
def g_laws_eqStrip (a0 : ((List Int) × (List Int))) (a1 : ((List Int) × (List Int))) : Option (Bool) := t_laws_eqStrip some a0 a1
theorem nat_laws_eqStrip {R} kx a0 a1 : @t_laws_eqStrip R kx a0 a1 = (g_laws_eqStrip a0 a1).bind kx := by
  unfold g_laws_eqStrip t_laws_eqStrip
  exact nat_bind fun _ => nat_cond (rfl) (nat_bind fun _ => nat_cond (rfl) (rfl))
abbrev k_laws_eqStrip : Contract := .fx [.val true (.pair (.slice (.int .i64)) (.slice (.int .i64))), .val true (.pair (.slice (.int .i64)) (.slice (.int .i64)))] (Bool) (fun z => g_laws_eqStrip z.1 z.2.1) (fun b => (.one ⟨false, [(.v (.bool b))]⟩, []))
theorem so_laws_eqStrip : Sound (C0 ee) 9 k_laws_eqStrip :=
  Sound.fx (e := false) (.cons so_laws_eqInt64S (.nil)) mixed Tryd.func9 (by kernel_rfl) (by kernel_rfl) noHints 1 noHints_ok (fun z => (by kernel_rfl : _ = t_laws_eqStrip (fun b => some (k_laws_eqStrip.enc b)) z.1 z.2.1).trans (nat_laws_eqStrip _ z.1 z.2.1))

/-! ### F25 laws.markInt64S -/
def T_laws_markInt64S : List (FuncId × Contract) := []
abbrev s_laws_markInt64S_3 : LS := ⟨[(false, [(.view (.arg 0) true 0 (.int .i64))]), (false, [(.int .i64)]), (false, [(.int .i64)])], [], [(.own (.int .i64))]⟩
abbrev e_laws_markInt64S_3_0 : LS := ⟨[(false, [(.int .i64)])], [], [(.own (.int .i64))]⟩
abbrev d_laws_markInt64S_3_0 (v0 : Int) (v1 : List Int) := ((((v0, ()), ()), (), (v1, ())) : e_laws_markInt64S_3_0.T)
abbrev x_laws_markInt64S_3 : List (Ex × LS) := [(.exit 0, e_laws_markInt64S_3_0)]
abbrev m_laws_markInt64S_3 (x0 : List Int) (x1 : Int) (x5 : Int) (o : List Int) := ((((x0, ()), (x1, ()), (x5, ()), ()), (), (o, ())) : s_laws_markInt64S_3.T)
def u_laws_markInt64S_3 {R : Type} (nx : s_laws_markInt64S_3.T → Option R) (hx : exH R x_laws_markInt64S_3) (x0 : List Int) (x1 : Int) (x5 : Int) (o : List Int) : Option R :=
  cond (decide (x5 < (((List.length x0) : Nat) : Int)))
  (Option.bind (idx x0 x5) fun _ =>
   nx (m_laws_markInt64S_3 (List.set x0 (0 + (Int.toNat x5)) x1) (IntKind.wrap IntKind.i64 (x1 + (1 : Int))) (IntKind.wrap IntKind.i64 (x5 + (1 : Int))) (List.set o (0 + (Int.toNat x5)) x1)))
  (hx.1 (d_laws_markInt64S_3_0 x1 o))
def t_laws_markInt64S_3 {R : Type} (nx : s_laws_markInt64S_3.T → Option R) (hx : exH R x_laws_markInt64S_3) (z : s_laws_markInt64S_3.T) : Option R := u_laws_markInt64S_3 nx hx z.1.1.1 z.1.2.1.1 z.1.2.2.1.1 z.2.2.1
theorem nat_laws_markInt64S_3 : Natural @t_laws_markInt64S_3 := fun R nx hx z => by
  show u_laws_markInt64S_3 nx hx z.1.1.1 z.1.2.1.1 z.1.2.2.1.1 z.2.2.1 = (u_laws_markInt64S_3 (fun y => some (.inl y)) (hIn x_laws_markInt64S_3 fun x => some (.inr x)) z.1.1.1 z.1.2.1.1 z.1.2.2.1.1 z.2.2.1).bind (goOn nx hx)
  unfold u_laws_markInt64S_3
  exact nat_cond (nat_bind fun _ => rfl) (rfl)
def w_laws_markInt64S_3 : s_laws_markInt64S_3.T → Option (exT x_laws_markInt64S_3) := wOf @t_laws_markInt64S_3
theorem wq_laws_markInt64S_3 x0 x1 x5 o : w_laws_markInt64S_3 (m_laws_markInt64S_3 x0 x1 x5 o) = u_laws_markInt64S_3 w_laws_markInt64S_3 (hIn x_laws_markInt64S_3 some) x0 x1 x5 o := wOf_eq nat_laws_markInt64S_3 _
def lh_laws_markInt64S_3 : LoopHint := ⟨[0, 1, 5], [], [1], []⟩
def h_laws_markInt64S : Hints Rv := ⟨fun k => match k with | 3 => lh_laws_markInt64S_3 | _ => ⟨[], [], [], []⟩, fun k => match k with | 3 => some (loopX s_laws_markInt64S_3 x_laws_markInt64S_3 w_laws_markInt64S_3) | _ => none⟩
theorem st_laws_markInt64S_3 (n : Nat) (z : s_laws_markInt64S_3.T) (k : Ex → Live → Option Rv) : loopN ⟨19, 19⟩ lh_laws_markInt64S_3 (den (tab (C0 ee) T_laws_markInt64S) ⟨19, 19⟩ h_laws_markInt64S 1 (loopOf Tryd.f25 2)) (n + 1) (s_laws_markInt64S_3.enc z) k =
    t_laws_markInt64S_3 (fun y => loopN ⟨19, 19⟩ lh_laws_markInt64S_3 (den (tab (C0 ee) T_laws_markInt64S) ⟨19, 19⟩ h_laws_markInt64S 1 (loopOf Tryd.f25 2)) n (s_laws_markInt64S_3.enc y) k) (hK k x_laws_markInt64S_3) z := by kernel_rfl
theorem hs_laws_markInt64S : HintsOk (tab (C0 ee) T_laws_markInt64S) ⟨19, 19⟩ h_laws_markInt64S 1 (loops (codeOf Tryd.f25)) := by
  have hl : loops (codeOf Tryd.f25) = [loopOf Tryd.f25 2] := by kernel_rfl
  rw [hl]
  exact HintsOk.cons (n := 3) (lh := lh_laws_markInt64S_3) (S := loopX s_laws_markInt64S_3 x_laws_markInt64S_3 w_laws_markInt64S_3) (by kernel_rfl) rfl rfl (loopX_ok nat_laws_markInt64S_3 st_laws_markInt64S_3)
    (HintsOk.nil)
def t_laws_markInt64S {R : Type} (kx : Int × (List Int) → Option R) (a0 : List Int) (a1 : Int) : Option R :=
  Option.bind (w_laws_markInt64S_3 (m_laws_markInt64S_3 a0 a1 (0 : Int) a0)) (exC x_laws_markInt64S_3
  (fun e191 =>
   kx ((e191.1.1.1 : Int), (e191.2.2.1 : List Int)), ()))
def g_laws_markInt64S (a0 : List Int) (a1 : Int) : Option (Int × (List Int)) := t_laws_markInt64S some a0 a1
theorem nat_laws_markInt64S {R} kx a0 a1 : @t_laws_markInt64S R kx a0 a1 = (g_laws_markInt64S a0 a1).bind kx := by
  unfold g_laws_markInt64S t_laws_markInt64S
  exact nat_exC ⟨fun _ => rfl, trivial⟩
abbrev k_laws_markInt64S : Contract := .fx [.io (.int .i64), .val false (.int .i64)] (Int × (List Int)) (fun z => g_laws_markInt64S z.1 z.2.1) (fun b => (.one ⟨false, [(.v (.int .i64 b.1))]⟩, [(.own (.int .i64) b.2)]))
theorem so_laws_markInt64S : Sound (C0 ee) 25 k_laws_markInt64S :=
  Sound.fx (e := false) (t := T_laws_markInt64S) (.nil) mixed Tryd.func25 (by kernel_rfl) (by kernel_rfl) h_laws_markInt64S 1 hs_laws_markInt64S (fun z => (by kernel_rfl : _ = t_laws_markInt64S (fun b => some (k_laws_markInt64S.enc b)) z.1 z.2.1).trans (nat_laws_markInt64S _ z.1 z.2.1))

/-! ### F12 laws.markStrip -/
def t_laws_markStrip {R : Type} (kx : Int × (List Int) × (List Int) → Option R) (a0_0 : List Int) (a0_1 : List Int) (a1 : Int) : Option R :=
  cond (decide ((List.length a0_0) = (List.length a0_0)))
  (Option.bind (g_laws_markInt64S a0_0 a1) fun y194 =>
   cond (decide ((List.length a0_0) = (List.length a0_0)))
   (cond (decide ((List.length a0_0) = (List.length a0_0)))
    (cond (decide ((List.length a0_1) = (List.length a0_1)))
     (Option.bind (g_laws_markInt64S a0_1 y194.1) fun y195 =>
      cond (decide ((List.length a0_1) = (List.length a0_1)))
      (cond (decide ((List.length a0_1) = (List.length a0_1)))
       (kx (y195.1, (y194.2, y195.2)))
       (none))
      (none))
     (none))
    (none))
   (none))
  (none)
def g_laws_markStrip (a0_0 : List Int) (a0_1 : List Int) (a1 : Int) : Option (Int × (List Int) × (List Int)) := t_laws_markStrip some a0_0 a0_1 a1
theorem nat_laws_markStrip {R} kx a0_0 a0_1 a1 : @t_laws_markStrip R kx a0_0 a0_1 a1 = (g_laws_markStrip a0_0 a0_1 a1).bind kx := by
  unfold g_laws_markStrip t_laws_markStrip
  exact nat_cond (nat_bind fun _ => nat_cond (nat_cond (nat_cond (nat_bind fun _ => nat_cond (nat_cond (rfl) (rfl)) (rfl)) (rfl)) (rfl)) (rfl)) (rfl)
abbrev k_laws_markStrip : Contract := .fx [.ios true [(.int .i64), (.int .i64)], .val false (.int .i64)] (Int × (List Int) × (List Int)) (fun z => g_laws_markStrip z.1.1 z.1.2.1 z.2.1) (fun b => (.one ⟨false, [(.v (.int .i64 b.1))]⟩, [(.own (.int .i64) b.2.1), (.own (.int .i64) b.2.2)]))
theorem so_laws_markStrip : Sound (C0 ee) 12 k_laws_markStrip :=
  Sound.fx (e := false) (.cons so_laws_markInt64S (.nil)) mixed Tryd.func12 (by kernel_rfl) (by kernel_rfl) noHints 1 noHints_ok (fun z => (by kernel_rfl : _ = t_laws_markStrip (fun b => some (k_laws_markStrip.enc b)) z.1.1 z.1.2.1 z.2.1).trans (nat_laws_markStrip _ z.1.1 z.1.2.1 z.2.1))

/-! ### F26 laws.heldInt64S -/
def T_laws_heldInt64S : List (FuncId × Contract) := []
abbrev s_laws_heldInt64S_3 : LS := ⟨[(false, [(.sl (.int .i64))]), (false, [(.int .i64)]), (false, [(.int .i64)])], [], []⟩
abbrev e_laws_heldInt64S_3_0 : LS := ⟨[(false, [(.int .i64)]), (false, [(.int .i64)])], [], []⟩
abbrev d_laws_heldInt64S_3_0 (v0 : Int) (v1 : Int) := ((((v0, ()), (v1, ()), ()), (), ()) : e_laws_heldInt64S_3_0.T)
abbrev e_laws_heldInt64S_3_1 : LS := ⟨[(false, [(.int .i64)]), (false, [.undef])], [], []⟩
abbrev d_laws_heldInt64S_3_1 (v0 : Int) := ((((v0, ()), ((), ()), ()), (), ()) : e_laws_heldInt64S_3_1.T)
abbrev x_laws_heldInt64S_3 : List (Ex × LS) := [(.ret, e_laws_heldInt64S_3_0), (.exit 0, e_laws_heldInt64S_3_1)]
abbrev m_laws_heldInt64S_3 (x0 : List Int) (x1 : Int) (x5 : Int) := ((((x0, ()), (x1, ()), (x5, ()), ()), (), ()) : s_laws_heldInt64S_3.T)
def u_laws_heldInt64S_3 {R : Type} (nx : s_laws_heldInt64S_3.T → Option R) (hx : exH R x_laws_heldInt64S_3) (x0 : List Int) (x1 : Int) (x5 : Int) : Option R :=
  cond (decide (x5 < (((List.length x0) : Nat) : Int)))
  (Option.bind (idx x0 x5) fun y204 =>
   cond (y204 != x1)
   (hx.1 (d_laws_heldInt64S_3_0 x1 (-(1 : Int))))
   (nx (m_laws_heldInt64S_3 x0 (IntKind.wrap IntKind.i64 (x1 + (1 : Int))) (IntKind.wrap IntKind.i64 (x5 + (1 : Int))))))
  (hx.2.1 (d_laws_heldInt64S_3_1 x1))
def t_laws_heldInt64S_3 {R : Type} (nx : s_laws_heldInt64S_3.T → Option R) (hx : exH R x_laws_heldInt64S_3) (z : s_laws_heldInt64S_3.T) : Option R := u_laws_heldInt64S_3 nx hx z.1.1.1 z.1.2.1.1 z.1.2.2.1.1
theorem nat_laws_heldInt64S_3 : Natural @t_laws_heldInt64S_3 := fun R nx hx z => by
  show u_laws_heldInt64S_3 nx hx z.1.1.1 z.1.2.1.1 z.1.2.2.1.1 = (u_laws_heldInt64S_3 (fun y => some (.inl y)) (hIn x_laws_heldInt64S_3 fun x => some (.inr x)) z.1.1.1 z.1.2.1.1 z.1.2.2.1.1).bind (goOn nx hx)
  unfold u_laws_heldInt64S_3
  exact nat_cond (nat_bind fun _ => nat_cond (rfl) (rfl)) (rfl)
def w_laws_heldInt64S_3 : s_laws_heldInt64S_3.T → Option (exT x_laws_heldInt64S_3) := wOf @t_laws_heldInt64S_3
theorem wq_laws_heldInt64S_3 x0 x1 x5 : w_laws_heldInt64S_3 (m_laws_heldInt64S_3 x0 x1 x5) = u_laws_heldInt64S_3 w_laws_heldInt64S_3 (hIn x_laws_heldInt64S_3 some) x0 x1 x5 := wOf_eq nat_laws_heldInt64S_3 _
def lh_laws_heldInt64S_3 : LoopHint := ⟨[0, 1, 5], [], [1, 4], []⟩
def h_laws_heldInt64S : Hints Rv := ⟨fun k => match k with | 3 => lh_laws_heldInt64S_3 | _ => ⟨[], [], [], []⟩, fun k => match k with | 3 => some (loopX s_laws_heldInt64S_3 x_laws_heldInt64S_3 w_laws_heldInt64S_3) | _ => none⟩
theorem st_laws_heldInt64S_3 (n : Nat) (z : s_laws_heldInt64S_3.T) (k : Ex → Live → Option Rv) : loopN ⟨21, 21⟩ lh_laws_heldInt64S_3 (den (tab (C0 ee) T_laws_heldInt64S) ⟨21, 21⟩ h_laws_heldInt64S 1 (loopOf Tryd.f26 2)) (n + 1) (s_laws_heldInt64S_3.enc z) k =
    t_laws_heldInt64S_3 (fun y => loopN ⟨21, 21⟩ lh_laws_heldInt64S_3 (den (tab (C0 ee) T_laws_heldInt64S) ⟨21, 21⟩ h_laws_heldInt64S 1 (loopOf Tryd.f26 2)) n (s_laws_heldInt64S_3.enc y) k) (hK k x_laws_heldInt64S_3) z := by kernel_rfl
theorem hs_laws_heldInt64S : HintsOk (tab (C0 ee) T_laws_heldInt64S) ⟨21, 21⟩ h_laws_heldInt64S 1 (loops (codeOf Tryd.f26)) := by
  have hl : loops (codeOf Tryd.f26) = [loopOf Tryd.f26 2] := by kernel_rfl
  rw [hl]
  exact HintsOk.cons (n := 3) (lh := lh_laws_heldInt64S_3) (S := loopX s_laws_heldInt64S_3 x_laws_heldInt64S_3 w_laws_heldInt64S_3) (by kernel_rfl) rfl rfl (loopX_ok nat_laws_heldInt64S_3 st_laws_heldInt64S_3)
    (HintsOk.nil)
def t_laws_heldInt64S {R : Type} (kx : Int → Option R) (a0 : (List Int)) (a1 : Int) : Option R :=
  Option.bind (w_laws_heldInt64S_3 (m_laws_heldInt64S_3 a0 a1 (0 : Int))) (exC x_laws_heldInt64S_3
  (fun e205 =>
   kx (e205.1.2.1.1 : Int), fun e208 =>
   kx (e208.1.1.1 : Int), ()))
def g_laws_heldInt64S (a0 : (List Int)) (a1 : Int) : Option (Int) := t_laws_heldInt64S some a0 a1
theorem nat_laws_heldInt64S {R} kx a0 a1 : @t_laws_heldInt64S R kx a0 a1 = (g_laws_heldInt64S a0 a1).bind kx := by
  unfold g_laws_heldInt64S t_laws_heldInt64S
  exact nat_exC ⟨fun _ => rfl, fun _ => rfl, trivial⟩
abbrev k_laws_heldInt64S : Contract := .fx [.val false (.slice (.int .i64)), .val false (.int .i64)] (Int) (fun z => g_laws_heldInt64S z.1 z.2.1) (fun b => (.one ⟨false, [(.v (.int .i64 b))]⟩, []))
theorem so_laws_heldInt64S : Sound (C0 ee) 26 k_laws_heldInt64S :=
  Sound.fx (e := false) (t := T_laws_heldInt64S) (.nil) mixed Tryd.func26 (by kernel_rfl) (by kernel_rfl) h_laws_heldInt64S 1 hs_laws_heldInt64S (fun z => (by kernel_rfl : _ = t_laws_heldInt64S (fun b => some (k_laws_heldInt64S.enc b)) z.1 z.2.1).trans (nat_laws_heldInt64S _ z.1 z.2.1))

/-! ### F13 laws.heldStrip -/
def t_laws_heldStrip {R : Type} (kx : Int → Option R) (a0 : ((List Int) × (List Int))) (a1 : Int) : Option R :=
  Option.bind (g_laws_heldInt64S a0.1 a1) fun y210 =>
  cond (decide (y210 < (0 : Int)))
  (kx (-(1 : Int)))
  (Option.bind (g_laws_heldInt64S a0.2 y210) fun y211 =>
   cond (decide (y211 < (0 : Int)))
   (kx (-(1 : Int)))
   (kx y211))
def g_laws_heldStrip (a0 : ((List Int) × (List Int))) (a1 : Int) : Option (Int) := t_laws_heldStrip some a0 a1
theorem nat_laws_heldStrip {R} kx a0 a1 : @t_laws_heldStrip R kx a0 a1 = (g_laws_heldStrip a0 a1).bind kx := by
  unfold g_laws_heldStrip t_laws_heldStrip
  exact nat_bind fun _ => nat_cond (rfl) (nat_bind fun _ => nat_cond (rfl) (rfl))
abbrev k_laws_heldStrip : Contract := .fx [.val true (.pair (.slice (.int .i64)) (.slice (.int .i64))), .val false (.int .i64)] (Int) (fun z => g_laws_heldStrip z.1 z.2.1) (fun b => (.one ⟨false, [(.v (.int .i64 b))]⟩, []))
theorem so_laws_heldStrip : Sound (C0 ee) 13 k_laws_heldStrip :=
  Sound.fx (e := false) (.cons so_laws_heldInt64S (.nil)) mixed Tryd.func13 (by kernel_rfl) (by kernel_rfl) noHints 1 noHints_ok (fun z => (by kernel_rfl : _ = t_laws_heldStrip (fun b => some (k_laws_heldStrip.enc b)) z.1 z.2.1).trans (nat_laws_heldStrip _ z.1 z.2.1))

/-! ### F4 laws.FnExactReadStrip -/
def t_laws_FnExactReadStrip {R : Type} (kx : Bool → Option R) (a0 : ByteArray) : Option R :=
  cond (decide ((((ByteArray.size a0) : Nat) : Int) > (1048576 : Int)))
  (kx Bool.true)
  (Option.bind (g_spec_ReadStrip a0) fun y82 =>
   Option.bind (g_impl_ReadStrip a0) fun y165 =>
   Option.bind (g_laws_eqStrip y165.1 y82.1) fun y180 =>
   cond (!y180)
   (kx Bool.false)
   (cond (!(y165.2 == y82.2))
    (kx Bool.false)
    (cond (decide ((List.length y165.1.1) = (List.length y165.1.1)))
     (cond (decide ((List.length y165.1.2) = (List.length y165.1.2)))
      (Option.bind (g_laws_markStrip y165.1.1 y165.1.2 (1 : Int)) fun y196 =>
       Option.bind (g_laws_heldStrip y196.2 (1 : Int)) fun y212 =>
       cond (decide (y212 < (0 : Int)))
       (kx Bool.false)
       (cond (y212 != y196.1)
        (kx Bool.false)
        (Option.bind (g_impl_ReadStrip a0) fun y213 =>
         Option.bind (g_laws_eqStrip y213.1 y82.1) fun y214 =>
         cond (!y214)
         (kx Bool.false)
         (cond (!(y213.2 == y82.2))
          (kx Bool.false)
          (Option.bind (g_laws_heldStrip y196.2 (1 : Int)) fun y215 =>
           cond (decide (y215 < (0 : Int)))
           (kx Bool.false)
           (cond (y215 != y196.1)
            (kx Bool.false)
            (kx Bool.true)))))))
      (none))
     (none))))
def g_laws_FnExactReadStrip (a0 : ByteArray) : Option (Bool) := t_laws_FnExactReadStrip some a0
theorem nat_laws_FnExactReadStrip {R} kx a0 : @t_laws_FnExactReadStrip R kx a0 = (g_laws_FnExactReadStrip a0).bind kx := by
  unfold g_laws_FnExactReadStrip t_laws_FnExactReadStrip
  exact nat_cond (rfl) (nat_bind fun _ => nat_bind fun _ => nat_bind fun _ => nat_cond (rfl) (nat_cond (rfl) (nat_cond (nat_cond (nat_bind fun _ => nat_bind fun _ => nat_cond (rfl) (nat_cond (rfl) (nat_bind fun _ => nat_bind fun _ => nat_cond (rfl) (nat_cond (rfl) (nat_bind fun _ => nat_cond (rfl) (nat_cond (rfl) (rfl))))))) (rfl)) (rfl))))
abbrev as_laws_FnExactReadStrip : List AX := [.val false .str]
abbrev en_laws_FnExactReadStrip : Bool → AV × List CV := fun b => (.one ⟨false, [(.v (.bool b))]⟩, [])
abbrev k_laws_FnExactReadStrip : Contract := .fx as_laws_FnExactReadStrip (Bool) (fun z => g_laws_FnExactReadStrip z.1) en_laws_FnExactReadStrip
theorem so_laws_FnExactReadStrip : Sound (C0 ee) 4 k_laws_FnExactReadStrip :=
  Sound.fx (e := false) (.cons so_spec_ReadStrip (.cons so_impl_ReadStrip (.cons so_laws_eqStrip (.cons so_laws_markStrip (.cons so_laws_heldStrip (.nil)))))) mixed Tryd.func4 (by kernel_rfl) (by kernel_rfl) noHints 1 noHints_ok (fun z => (by kernel_rfl : _ = t_laws_FnExactReadStrip (fun b => some (k_laws_FnExactReadStrip.enc b)) z.1).trans (nat_laws_FnExactReadStrip _ z.1))

end
end Go.Proofs.YtjfgddmngnkfdaaDoor
