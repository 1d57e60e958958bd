/- What the functions that SameConstruction reaches compute, printed. No conditions. -/
import Derived.Test.YtnpejkbnepncfaaW1
namespace Go.Proofs.Ytnpejkbnepncfaa
open Go.Vai
set_option maxRecDepth 100000

/-! ### F42 laws.szStringS -/
noncomputable def T_laws_szStringS : List (FuncId × Contract) := []
theorem a_laws_szStringS : AllSound C0 T_laws_szStringS := .nil
abbrev s_laws_szStringS_6 : LS := ⟨[(false, [(.sl .str)]), (false, [(.int .i64)]), (false, [(.int .i64)])], [], []⟩
abbrev e_laws_szStringS_6_0 : LS := ⟨[(false, [(.int .i64)]), (false, [(.int .i64)])], [], []⟩
abbrev d_laws_szStringS_6_0 (v0 : Int) (v1 : Int) : e_laws_szStringS_6_0.T := (((v0, ()), (v1, ()), ()), (), ())
abbrev e_laws_szStringS_6_1 : LS := ⟨[(false, [(.int .i64)]), (false, [.undef])], [], []⟩
abbrev d_laws_szStringS_6_1 (v0 : Int) : e_laws_szStringS_6_1.T := (((v0, ()), ((), ()), ()), (), ())
abbrev x_laws_szStringS_6 : List (Ex × LS) := [(.ret, e_laws_szStringS_6_0), (.exit 0, e_laws_szStringS_6_1)]
abbrev m_laws_szStringS_6 (x0 : List ByteArray) (x1 : Int) (x5 : Int) : s_laws_szStringS_6.T := (((x0, ()), (x1, ()), (x5, ()), ()), (), ())
noncomputable def u_laws_szStringS_6 {R : Type} (nx : s_laws_szStringS_6.T → Option R) (hx : exH R x_laws_szStringS_6) (x0 : List ByteArray) (x1 : Int) (x5 : Int) : Option R :=
  cond (decide (x5 < (((List.length x0) : Nat) : Int)))
  (Option.bind (idx x0 x5) fun y9 =>
   cond (decide ((IntKind.wrap IntKind.i64 (x1 - (((ByteArray.size y9) : Nat) : Int))) < (0 : Int)))
   (hx.1 (d_laws_szStringS_6_0 (IntKind.wrap IntKind.i64 (x1 - (((ByteArray.size y9) : Nat) : Int))) (-(1 : Int))))
   (nx (m_laws_szStringS_6 x0 (IntKind.wrap IntKind.i64 (x1 - (((ByteArray.size y9) : Nat) : Int))) (IntKind.wrap IntKind.i64 (x5 + (1 : Int))))))
  (hx.2.1 (d_laws_szStringS_6_1 x1))
noncomputable def t_laws_szStringS_6 {R : Type} (nx : s_laws_szStringS_6.T → Option R) (hx : exH R x_laws_szStringS_6) (z : s_laws_szStringS_6.T) : Option R := u_laws_szStringS_6 nx hx z.1.1.1 z.1.2.1.1 z.1.2.2.1.1
theorem nat_laws_szStringS_6 : Natural @t_laws_szStringS_6 := fun R nx hx z => by
  show u_laws_szStringS_6 nx hx z.1.1.1 z.1.2.1.1 z.1.2.2.1.1 = (u_laws_szStringS_6 (fun y => some (.inl y)) (hIn x_laws_szStringS_6 fun x => some (.inr x)) z.1.1.1 z.1.2.1.1 z.1.2.2.1.1).bind (goOn nx hx)
  unfold u_laws_szStringS_6
  exact nat_cond (nat_bind fun _ => nat_cond (rfl) (rfl)) (rfl)
noncomputable def w_laws_szStringS_6 : s_laws_szStringS_6.T → Option (exT x_laws_szStringS_6) := wOf @t_laws_szStringS_6
theorem wq_laws_szStringS_6 (x0 : List ByteArray) (x1 : Int) (x5 : Int) : w_laws_szStringS_6 (m_laws_szStringS_6 x0 x1 x5) = u_laws_szStringS_6 w_laws_szStringS_6 (hIn x_laws_szStringS_6 some) x0 x1 x5 := wOf_eq nat_laws_szStringS_6 _
def lh_laws_szStringS_6 : LoopHint := ⟨[0, 1, 5], [], [1, 4], []⟩
noncomputable def h_laws_szStringS : Hints Rv := ⟨fun k => match k with | 6 => lh_laws_szStringS_6 | _ => ⟨[], [], [], []⟩, fun k => match k with | 6 => some (loopX s_laws_szStringS_6 x_laws_szStringS_6 w_laws_szStringS_6) | _ => none⟩
theorem st_laws_szStringS_6 (n : Nat) (z : s_laws_szStringS_6.T) (k : Ex → Live → Option Rv) : loopN ⟨28, 28⟩ lh_laws_szStringS_6 (den (tab C0 T_laws_szStringS) ⟨28, 28⟩ h_laws_szStringS 1 (loopOf Try.f42 5)) (n + 1) (s_laws_szStringS_6.enc z) k =
    t_laws_szStringS_6 (fun y => loopN ⟨28, 28⟩ lh_laws_szStringS_6 (den (tab C0 T_laws_szStringS) ⟨28, 28⟩ h_laws_szStringS 1 (loopOf Try.f42 5)) n (s_laws_szStringS_6.enc y) k) (hK k x_laws_szStringS_6) z := by kernel_rfl
theorem hs_laws_szStringS : HintsOk (tab C0 T_laws_szStringS) ⟨28, 28⟩ h_laws_szStringS 1 (loops (codeOf Try.f42)) := by
  have hl : loops (codeOf Try.f42) = [loopOf Try.f42 5] := by kernel_rfl
  rw [hl]
  exact HintsOk.cons (n := 6) (lh := lh_laws_szStringS_6) (S := loopX s_laws_szStringS_6 x_laws_szStringS_6 w_laws_szStringS_6) (by kernel_rfl) rfl rfl (loopX_ok nat_laws_szStringS_6 st_laws_szStringS_6)
    (HintsOk.nil)
noncomputable def t_laws_szStringS {R : Type} (kx : Int → Option R) (a0 : (List ByteArray)) (a1 : Int) : Option R :=
  cond (decide ((IntKind.wrap IntKind.i64 (a1 - (((List.length a0) : Nat) : Int))) < (0 : Int)))
  (kx (-(1 : Int)))
  (Option.bind (w_laws_szStringS_6 (m_laws_szStringS_6 a0 (IntKind.wrap IntKind.i64 (a1 - (((List.length a0) : Nat) : Int))) (0 : Int))) (exC x_laws_szStringS_6
   (fun e10 =>
    kx (e10.1.2.1.1 : Int), fun e13 =>
    kx (e13.1.1.1 : Int), ())))
noncomputable def g_laws_szStringS (a0 : (List ByteArray)) (a1 : Int) : Option (Int) := t_laws_szStringS some a0 a1
theorem nat_laws_szStringS {R : Type} (kx : Int → Option R) (a0 : (List ByteArray)) (a1 : Int) : t_laws_szStringS kx a0 a1 = (g_laws_szStringS a0 a1).bind kx := by
  unfold g_laws_szStringS t_laws_szStringS
  exact nat_cond (rfl) (nat_exC ⟨fun _ => rfl, fun _ => rfl, trivial⟩)
abbrev as_laws_szStringS : List AX := [.val false (.slice .str), .val false (.int .i64)]
abbrev en_laws_szStringS : Int → AV × List CV := fun b => (.one ⟨false, [(.v (.int .i64 b))]⟩, [])
noncomputable abbrev k_laws_szStringS : Contract := .fx as_laws_szStringS (Int) (fun z => g_laws_szStringS z.1 z.2.1) en_laws_szStringS
theorem r_laws_szStringS (z : argsX as_laws_szStringS) : runF (tab C0 T_laws_szStringS) h_laws_szStringS 1 Try.f42 (lentOf as_laws_szStringS) (xBoxes as_laws_szStringS z) (xVals as_laws_szStringS 0 z) K2 = t_laws_szStringS (fun b => some (en_laws_szStringS b)) z.1 z.2.1 := by kernel_rfl
theorem so_laws_szStringS : Sound C0 42 k_laws_szStringS :=
  Sound.fx a_laws_szStringS mixed Try.func42 (by kernel_rfl) (by kernel_rfl) h_laws_szStringS 1 hs_laws_szStringS (fun z => (r_laws_szStringS z).trans (nat_laws_szStringS _ z.1 z.2.1))

/-! ### F19 laws.szConstruction -/
noncomputable def T_laws_szConstruction : List (FuncId × Contract) := [(42, k_laws_szStringS)]
theorem a_laws_szConstruction : AllSound C0 T_laws_szConstruction := .cons so_laws_szStringS (.nil)
noncomputable def t_laws_szConstruction {R : Type} (kx : Int → Option R) (a0 : (ByteArray × (Int × ((List ByteArray) × (Int × (((Int × (Int × Int)) × (Int × (Int × Int))) × (Int × (Int × (Int × Int))))))))) (a1 : Int) : Option R :=
  cond (decide ((IntKind.wrap IntKind.i64 (a1 - (((ByteArray.size a0.1) : Nat) : Int))) < (0 : Int)))
  (kx (-(1 : Int)))
  (Option.bind (g_laws_szStringS a0.2.2.1 (IntKind.wrap IntKind.i64 (a1 - (((ByteArray.size a0.1) : Nat) : Int)))) fun y15 =>
   cond (decide (y15 < (0 : Int)))
   (kx (-(1 : Int)))
   (kx y15))
noncomputable def g_laws_szConstruction (a0 : (ByteArray × (Int × ((List ByteArray) × (Int × (((Int × (Int × Int)) × (Int × (Int × Int))) × (Int × (Int × (Int × Int))))))))) (a1 : Int) : Option (Int) := t_laws_szConstruction some a0 a1
theorem nat_laws_szConstruction {R : Type} (kx : Int → Option R) (a0 : (ByteArray × (Int × ((List ByteArray) × (Int × (((Int × (Int × Int)) × (Int × (Int × Int))) × (Int × (Int × (Int × Int))))))))) (a1 : Int) : t_laws_szConstruction kx a0 a1 = (g_laws_szConstruction a0 a1).bind kx := by
  unfold g_laws_szConstruction t_laws_szConstruction
  exact nat_cond (rfl) (nat_bind fun _ => nat_cond (rfl) (rfl))
abbrev as_laws_szConstruction : List AX := [.val true (.pair .str (.pair (.int .i64) (.pair (.slice .str) (.pair (.int .i64) (.pair (.pair (.pair (.int .i64) (.pair (.int .i64) (.int .i64))) (.pair (.int .i64) (.pair (.int .i64) (.int .i64)))) (.pair (.int .i64) (.pair (.int .i64) (.pair (.int .i64) (.int .i64))))))))), .val false (.int .i64)]
abbrev en_laws_szConstruction : Int → AV × List CV := fun b => (.one ⟨false, [(.v (.int .i64 b))]⟩, [])
noncomputable abbrev k_laws_szConstruction : Contract := .fx as_laws_szConstruction (Int) (fun z => g_laws_szConstruction z.1 z.2.1) en_laws_szConstruction
theorem r_laws_szConstruction (z : argsX as_laws_szConstruction) : runF (tab C0 T_laws_szConstruction) noHints 1 Try.f19 (lentOf as_laws_szConstruction) (xBoxes as_laws_szConstruction z) (xVals as_laws_szConstruction 0 z) K2 = t_laws_szConstruction (fun b => some (en_laws_szConstruction b)) z.1 z.2.1 := by kernel_rfl
theorem so_laws_szConstruction : Sound C0 19 k_laws_szConstruction :=
  Sound.fx a_laws_szConstruction mixed Try.func19 (by kernel_rfl) (by kernel_rfl) noHints 1 noHints_ok (fun z => (r_laws_szConstruction z).trans (nat_laws_szConstruction _ z.1 z.2.1))

/-! ### F43 laws.toStringS -/
noncomputable def T_laws_toStringS : List (FuncId × Contract) := []
theorem a_laws_toStringS : AllSound C0 T_laws_toStringS := .nil
abbrev s_laws_toStringS_4 : LS := ⟨[(false, [(.sl .str)]), (false, [(.own .str)]), (false, [(.int .i64)])], [], []⟩
abbrev e_laws_toStringS_4_0 : LS := ⟨[(false, [(.own .str)])], [], []⟩
abbrev d_laws_toStringS_4_0 (v0 : List ByteArray) : e_laws_toStringS_4_0.T := (((v0, ()), ()), (), ())
abbrev x_laws_toStringS_4 : List (Ex × LS) := [(.exit 0, e_laws_toStringS_4_0)]
abbrev m_laws_toStringS_4 (x0 : List ByteArray) (x3 : List ByteArray) (x4 : Int) : s_laws_toStringS_4.T := (((x0, ()), (x3, ()), (x4, ()), ()), (), ())
noncomputable def u_laws_toStringS_4 {R : Type} (nx : s_laws_toStringS_4.T → Option R) (hx : exH R x_laws_toStringS_4) (x0 : List ByteArray) (x3 : List ByteArray) (x4 : Int) : Option R :=
  cond (decide (x4 < (((List.length x0) : Nat) : Int)))
  (Option.bind (idx x0 x4) fun y23 =>
   Option.bind (idx x3 x4) fun _ =>
   nx (m_laws_toStringS_4 x0 (List.set x3 (0 + (Int.toNat x4)) y23) (IntKind.wrap IntKind.i64 (x4 + (1 : Int)))))
  (hx.1 (d_laws_toStringS_4_0 x3))
noncomputable def t_laws_toStringS_4 {R : Type} (nx : s_laws_toStringS_4.T → Option R) (hx : exH R x_laws_toStringS_4) (z : s_laws_toStringS_4.T) : Option R := u_laws_toStringS_4 nx hx z.1.1.1 z.1.2.1.1 z.1.2.2.1.1
theorem nat_laws_toStringS_4 : Natural @t_laws_toStringS_4 := fun R nx hx z => by
  show u_laws_toStringS_4 nx hx z.1.1.1 z.1.2.1.1 z.1.2.2.1.1 = (u_laws_toStringS_4 (fun y => some (.inl y)) (hIn x_laws_toStringS_4 fun x => some (.inr x)) z.1.1.1 z.1.2.1.1 z.1.2.2.1.1).bind (goOn nx hx)
  unfold u_laws_toStringS_4
  exact nat_cond (nat_bind fun _ => nat_bind fun _ => rfl) (rfl)
noncomputable def w_laws_toStringS_4 : s_laws_toStringS_4.T → Option (exT x_laws_toStringS_4) := wOf @t_laws_toStringS_4
theorem wq_laws_toStringS_4 (x0 : List ByteArray) (x3 : List ByteArray) (x4 : Int) : w_laws_toStringS_4 (m_laws_toStringS_4 x0 x3 x4) = u_laws_toStringS_4 w_laws_toStringS_4 (hIn x_laws_toStringS_4 some) x0 x3 x4 := wOf_eq nat_laws_toStringS_4 _
def lh_laws_toStringS_4 : LoopHint := ⟨[0, 3, 4], [], [3], []⟩
noncomputable def h_laws_toStringS : Hints Rv := ⟨fun k => match k with | 4 => lh_laws_toStringS_4 | _ => ⟨[], [], [], []⟩, fun k => match k with | 4 => some (loopX s_laws_toStringS_4 x_laws_toStringS_4 w_laws_toStringS_4) | _ => none⟩
theorem st_laws_toStringS_4 (n : Nat) (z : s_laws_toStringS_4.T) (k : Ex → Live → Option Rv) : loopN ⟨22, 22⟩ lh_laws_toStringS_4 (den (tab C0 T_laws_toStringS) ⟨22, 22⟩ h_laws_toStringS 1 (loopOf Try.f43 3)) (n + 1) (s_laws_toStringS_4.enc z) k =
    t_laws_toStringS_4 (fun y => loopN ⟨22, 22⟩ lh_laws_toStringS_4 (den (tab C0 T_laws_toStringS) ⟨22, 22⟩ h_laws_toStringS 1 (loopOf Try.f43 3)) n (s_laws_toStringS_4.enc y) k) (hK k x_laws_toStringS_4) z := by kernel_rfl
theorem hs_laws_toStringS : HintsOk (tab C0 T_laws_toStringS) ⟨22, 22⟩ h_laws_toStringS 1 (loops (codeOf Try.f43)) := by
  have hl : loops (codeOf Try.f43) = [loopOf Try.f43 3] := by kernel_rfl
  rw [hl]
  exact HintsOk.cons (n := 4) (lh := lh_laws_toStringS_4) (S := loopX s_laws_toStringS_4 x_laws_toStringS_4 w_laws_toStringS_4) (by kernel_rfl) rfl rfl (loopX_ok nat_laws_toStringS_4 st_laws_toStringS_4)
    (HintsOk.nil)
noncomputable def t_laws_toStringS {R : Type} (kx : (List ByteArray) → Option R) (a0 : (List ByteArray)) : Option R :=
  cond (decide ((((List.length a0) : Nat) : Int) ≤ (((List.length a0) : Nat) : Int)))
  (cond (decide (((((List.length a0) : Nat) : Int) * ((16 : Nat) : Int)) ≤ (70368744177664 : Int)))
   (cond (decide ((((List.length a0) : Nat) : Int) ≤ (70368744177664 : Int)))
    (Option.bind (w_laws_toStringS_4 (m_laws_toStringS_4 a0 (List.replicate (Int.toNat (((List.length a0) : Nat) : Int)) (ByteArray.mk (Array.mk []))) (0 : Int))) (exC x_laws_toStringS_4
     (fun e25 =>
      kx (e25.1.1.1 : List ByteArray), ())))
    (none))
   (none))
  (none)
noncomputable def g_laws_toStringS (a0 : (List ByteArray)) : Option ((List ByteArray)) := t_laws_toStringS some a0
theorem nat_laws_toStringS {R : Type} (kx : (List ByteArray) → Option R) (a0 : (List ByteArray)) : t_laws_toStringS kx a0 = (g_laws_toStringS a0).bind kx := by
  unfold g_laws_toStringS t_laws_toStringS
  exact nat_cond (nat_cond (nat_cond (nat_exC ⟨fun _ => rfl, trivial⟩) (rfl)) (rfl)) (rfl)
abbrev as_laws_toStringS : List AX := [.val false (.slice .str)]
abbrev en_laws_toStringS : (List ByteArray) → AV × List CV := fun b => (.one ⟨false, [(.own .str b)]⟩, [])
noncomputable abbrev k_laws_toStringS : Contract := .fx as_laws_toStringS ((List ByteArray)) (fun z => g_laws_toStringS z.1) en_laws_toStringS
theorem r_laws_toStringS (z : argsX as_laws_toStringS) : runF (tab C0 T_laws_toStringS) h_laws_toStringS 1 Try.f43 (lentOf as_laws_toStringS) (xBoxes as_laws_toStringS z) (xVals as_laws_toStringS 0 z) K2 = t_laws_toStringS (fun b => some (en_laws_toStringS b)) z.1 := by kernel_rfl
theorem so_laws_toStringS : Sound C0 43 k_laws_toStringS :=
  Sound.fx a_laws_toStringS mixed Try.func43 (by kernel_rfl) (by kernel_rfl) h_laws_toStringS 1 hs_laws_toStringS (fun z => (r_laws_toStringS z).trans (nat_laws_toStringS _ z.1))

/-! ### F63 laws.toNum -/
noncomputable def T_laws_toNum : List (FuncId × Contract) := []
theorem a_laws_toNum : AllSound C0 T_laws_toNum := .nil
noncomputable def t_laws_toNum {R : Type} (kx : (Int × (Int × Int)) → Option R) (a0 : (Int × (Int × Int))) : Option R :=
  kx a0
noncomputable def g_laws_toNum (a0 : (Int × (Int × Int))) : Option ((Int × (Int × Int))) := t_laws_toNum some a0
theorem nat_laws_toNum {R : Type} (kx : (Int × (Int × Int)) → Option R) (a0 : (Int × (Int × Int))) : t_laws_toNum kx a0 = (g_laws_toNum a0).bind kx := by
  unfold g_laws_toNum t_laws_toNum
  exact rfl
abbrev as_laws_toNum : List AX := [.val true (.pair (.int .i64) (.pair (.int .i64) (.int .i64)))]
abbrev en_laws_toNum : (Int × (Int × Int)) → AV × List CV := fun b => (.one ⟨true, [(.v (.int .i64 b.1)), (.v (.int .i64 b.2.1)), (.v (.int .i64 b.2.2))]⟩, [])
noncomputable abbrev k_laws_toNum : Contract := .fx as_laws_toNum ((Int × (Int × Int))) (fun z => g_laws_toNum z.1) en_laws_toNum
theorem r_laws_toNum (z : argsX as_laws_toNum) : runF (tab C0 T_laws_toNum) noHints 1 Try.f63 (lentOf as_laws_toNum) (xBoxes as_laws_toNum z) (xVals as_laws_toNum 0 z) K2 = t_laws_toNum (fun b => some (en_laws_toNum b)) z.1 := by kernel_rfl
theorem so_laws_toNum : Sound C0 63 k_laws_toNum :=
  Sound.fx a_laws_toNum mixed Try.func63 (by kernel_rfl) (by kernel_rfl) noHints 1 noHints_ok (fun z => (r_laws_toNum z).trans (nat_laws_toNum _ z.1))

/-! ### F44 laws.toPoint -/
noncomputable def T_laws_toPoint : List (FuncId × Contract) := [(63, k_laws_toNum)]
theorem a_laws_toPoint : AllSound C0 T_laws_toPoint := .cons so_laws_toNum (.nil)
noncomputable def t_laws_toPoint {R : Type} (kx : ((Int × (Int × Int)) × (Int × (Int × Int))) → Option R) (a0 : ((Int × (Int × Int)) × (Int × (Int × Int)))) : Option R :=
  Option.bind (g_laws_toNum a0.1) fun y30 =>
  Option.bind (g_laws_toNum a0.2) fun y31 =>
  kx (y30, y31)
noncomputable def g_laws_toPoint (a0 : ((Int × (Int × Int)) × (Int × (Int × Int)))) : Option (((Int × (Int × Int)) × (Int × (Int × Int)))) := t_laws_toPoint some a0
theorem nat_laws_toPoint {R : Type} (kx : ((Int × (Int × Int)) × (Int × (Int × Int))) → Option R) (a0 : ((Int × (Int × Int)) × (Int × (Int × Int)))) : t_laws_toPoint kx a0 = (g_laws_toPoint a0).bind kx := by
  unfold g_laws_toPoint t_laws_toPoint
  exact nat_bind fun _ => nat_bind fun _ => rfl
abbrev as_laws_toPoint : List AX := [.val true (.pair (.pair (.int .i64) (.pair (.int .i64) (.int .i64))) (.pair (.int .i64) (.pair (.int .i64) (.int .i64))))]
abbrev en_laws_toPoint : ((Int × (Int × Int)) × (Int × (Int × Int))) → AV × List CV := fun b => (.one ⟨true, [(.v (.int .i64 b.1.1)), (.v (.int .i64 b.1.2.1)), (.v (.int .i64 b.1.2.2)), (.v (.int .i64 b.2.1)), (.v (.int .i64 b.2.2.1)), (.v (.int .i64 b.2.2.2))]⟩, [])
noncomputable abbrev k_laws_toPoint : Contract := .fx as_laws_toPoint (((Int × (Int × Int)) × (Int × (Int × Int)))) (fun z => g_laws_toPoint z.1) en_laws_toPoint
theorem r_laws_toPoint (z : argsX as_laws_toPoint) : runF (tab C0 T_laws_toPoint) noHints 1 Try.f44 (lentOf as_laws_toPoint) (xBoxes as_laws_toPoint z) (xVals as_laws_toPoint 0 z) K2 = t_laws_toPoint (fun b => some (en_laws_toPoint b)) z.1 := by kernel_rfl
theorem so_laws_toPoint : Sound C0 44 k_laws_toPoint :=
  Sound.fx a_laws_toPoint mixed Try.func44 (by kernel_rfl) (by kernel_rfl) noHints 1 noHints_ok (fun z => (r_laws_toPoint z).trans (nat_laws_toPoint _ z.1))

/-! ### F45 laws.toLine -/
noncomputable def T_laws_toLine : List (FuncId × Contract) := [(63, k_laws_toNum)]
theorem a_laws_toLine : AllSound C0 T_laws_toLine := .cons so_laws_toNum (.nil)
noncomputable def t_laws_toLine {R : Type} (kx : (Int × (Int × (Int × Int))) → Option R) (a0 : (Int × (Int × (Int × Int)))) : Option R :=
  Option.bind (g_laws_toNum a0.2) fun y34 =>
  kx (a0.1, y34)
noncomputable def g_laws_toLine (a0 : (Int × (Int × (Int × Int)))) : Option ((Int × (Int × (Int × Int)))) := t_laws_toLine some a0
theorem nat_laws_toLine {R : Type} (kx : (Int × (Int × (Int × Int))) → Option R) (a0 : (Int × (Int × (Int × Int)))) : t_laws_toLine kx a0 = (g_laws_toLine a0).bind kx := by
  unfold g_laws_toLine t_laws_toLine
  exact nat_bind fun _ => rfl
abbrev as_laws_toLine : List AX := [.val true (.pair (.int .i64) (.pair (.int .i64) (.pair (.int .i64) (.int .i64))))]
abbrev en_laws_toLine : (Int × (Int × (Int × Int))) → AV × List CV := fun b => (.one ⟨true, [(.v (.int .i64 b.1)), (.v (.int .i64 b.2.1)), (.v (.int .i64 b.2.2.1)), (.v (.int .i64 b.2.2.2))]⟩, [])
noncomputable abbrev k_laws_toLine : Contract := .fx as_laws_toLine ((Int × (Int × (Int × Int)))) (fun z => g_laws_toLine z.1) en_laws_toLine
theorem r_laws_toLine (z : argsX as_laws_toLine) : runF (tab C0 T_laws_toLine) noHints 1 Try.f45 (lentOf as_laws_toLine) (xBoxes as_laws_toLine z) (xVals as_laws_toLine 0 z) K2 = t_laws_toLine (fun b => some (en_laws_toLine b)) z.1 := by kernel_rfl
theorem so_laws_toLine : Sound C0 45 k_laws_toLine :=
  Sound.fx a_laws_toLine mixed Try.func45 (by kernel_rfl) (by kernel_rfl) noHints 1 noHints_ok (fun z => (r_laws_toLine z).trans (nat_laws_toLine _ z.1))

/-! ### F21 laws.toConstruction -/
noncomputable def T_laws_toConstruction : List (FuncId × Contract) := [(43, k_laws_toStringS), (44, k_laws_toPoint), (45, k_laws_toLine)]
theorem a_laws_toConstruction : AllSound C0 T_laws_toConstruction := .cons so_laws_toStringS (.cons so_laws_toPoint (.cons so_laws_toLine (.nil)))
noncomputable def t_laws_toConstruction {R : Type} (kx : (ByteArray × (Int × ((List ByteArray) × (Int × (((Int × (Int × Int)) × (Int × (Int × Int))) × (Int × (Int × (Int × Int)))))))) → Option R) (a0 : (ByteArray × (Int × ((List ByteArray) × (Int × (((Int × (Int × Int)) × (Int × (Int × Int))) × (Int × (Int × (Int × Int))))))))) : Option R :=
  Option.bind (g_laws_toStringS a0.2.2.1) fun y27 =>
  Option.bind (g_laws_toPoint a0.2.2.2.2.1) fun y32 =>
  Option.bind (g_laws_toLine a0.2.2.2.2.2) fun y35 =>
  kx (a0.1, (a0.2.1, (y27, (a0.2.2.2.1, (y32, y35)))))
noncomputable def g_laws_toConstruction (a0 : (ByteArray × (Int × ((List ByteArray) × (Int × (((Int × (Int × Int)) × (Int × (Int × Int))) × (Int × (Int × (Int × Int))))))))) : Option ((ByteArray × (Int × ((List ByteArray) × (Int × (((Int × (Int × Int)) × (Int × (Int × Int))) × (Int × (Int × (Int × Int))))))))) := t_laws_toConstruction some a0
theorem nat_laws_toConstruction {R : Type} (kx : (ByteArray × (Int × ((List ByteArray) × (Int × (((Int × (Int × Int)) × (Int × (Int × Int))) × (Int × (Int × (Int × Int)))))))) → Option R) (a0 : (ByteArray × (Int × ((List ByteArray) × (Int × (((Int × (Int × Int)) × (Int × (Int × Int))) × (Int × (Int × (Int × Int))))))))) : t_laws_toConstruction kx a0 = (g_laws_toConstruction a0).bind kx := by
  unfold g_laws_toConstruction t_laws_toConstruction
  exact nat_bind fun _ => nat_bind fun _ => nat_bind fun _ => rfl
abbrev as_laws_toConstruction : List AX := [.val true (.pair .str (.pair (.int .i64) (.pair (.slice .str) (.pair (.int .i64) (.pair (.pair (.pair (.int .i64) (.pair (.int .i64) (.int .i64))) (.pair (.int .i64) (.pair (.int .i64) (.int .i64)))) (.pair (.int .i64) (.pair (.int .i64) (.pair (.int .i64) (.int .i64)))))))))]
abbrev en_laws_toConstruction : (ByteArray × (Int × ((List ByteArray) × (Int × (((Int × (Int × Int)) × (Int × (Int × Int))) × (Int × (Int × (Int × Int)))))))) → AV × List CV := fun b => (.one ⟨true, [(.v (.string b.1)), (.v (.int .i64 b.2.1)), (.own .str b.2.2.1), (.v (.int .i64 b.2.2.2.1)), (.v (.int .i64 b.2.2.2.2.1.1.1)), (.v (.int .i64 b.2.2.2.2.1.1.2.1)), (.v (.int .i64 b.2.2.2.2.1.1.2.2)), (.v (.int .i64 b.2.2.2.2.1.2.1)), (.v (.int .i64 b.2.2.2.2.1.2.2.1)), (.v (.int .i64 b.2.2.2.2.1.2.2.2)), (.v (.int .i64 b.2.2.2.2.2.1)), (.v (.int .i64 b.2.2.2.2.2.2.1)), (.v (.int .i64 b.2.2.2.2.2.2.2.1)), (.v (.int .i64 b.2.2.2.2.2.2.2.2))]⟩, [])
noncomputable abbrev k_laws_toConstruction : Contract := .fx as_laws_toConstruction ((ByteArray × (Int × ((List ByteArray) × (Int × (((Int × (Int × Int)) × (Int × (Int × Int))) × (Int × (Int × (Int × Int))))))))) (fun z => g_laws_toConstruction z.1) en_laws_toConstruction
theorem r_laws_toConstruction (z : argsX as_laws_toConstruction) : runF (tab C0 T_laws_toConstruction) noHints 1 Try.f21 (lentOf as_laws_toConstruction) (xBoxes as_laws_toConstruction z) (xVals as_laws_toConstruction 0 z) K2 = t_laws_toConstruction (fun b => some (en_laws_toConstruction b)) z.1 := by kernel_rfl
theorem so_laws_toConstruction : Sound C0 21 k_laws_toConstruction :=
  Sound.fx a_laws_toConstruction mixed Try.func21 (by kernel_rfl) (by kernel_rfl) noHints 1 noHints_ok (fun z => (r_laws_toConstruction z).trans (nat_laws_toConstruction _ z.1))

/-! ### F20 spec.SameConstruction -/
noncomputable def T_spec_SameConstruction : List (FuncId × Contract) := []
theorem a_spec_SameConstruction : AllSound C0 T_spec_SameConstruction := .nil
abbrev s_spec_SameConstruction_5 : LS := ⟨[(false, [(.ptr 2 0)]), (false, [(.ptr 3 0)]), (false, [(.int .i64)])], [(false, [.str, (.int .i64), (.sl .str), (.int .i64), (.int .i64), (.int .i64), (.int .i64), (.int .i64), (.int .i64), (.int .i64), (.int .i64), (.int .i64), (.int .i64), (.int .i64)]), (false, [.str, (.int .i64), (.sl .str), (.int .i64), (.int .i64), (.int .i64), (.int .i64), (.int .i64), (.int .i64), (.int .i64), (.int .i64), (.int .i64), (.int .i64), (.int .i64)])], []⟩
abbrev e_spec_SameConstruction_5_0 : LS := ⟨[(false, [.bool])], [], []⟩
abbrev d_spec_SameConstruction_5_0 (v0 : Bool) : e_spec_SameConstruction_5_0.T := (((v0, ()), ()), (), ())
abbrev e_spec_SameConstruction_5_1 : LS := ⟨[(false, [.undef])], [], []⟩
abbrev d_spec_SameConstruction_5_1 : e_spec_SameConstruction_5_1.T := ((((), ()), ()), (), ())
abbrev x_spec_SameConstruction_5 : List (Ex × LS) := [(.ret, e_spec_SameConstruction_5_0), (.exit 0, e_spec_SameConstruction_5_1)]
abbrev m_spec_SameConstruction_5 (x5 : Int) (b0_0 : ByteArray) (b0_1 : Int) (b0_2 : List ByteArray) (b0_3 : Int) (b0_4 : Int) (b0_5 : Int) (b0_6 : Int) (b0_7 : Int) (b0_8 : Int) (b0_9 : Int) (b0_10 : Int) (b0_11 : Int) (b0_12 : Int) (b0_13 : Int) (b1_0 : ByteArray) (b1_1 : Int) (b1_2 : List ByteArray) (b1_3 : Int) (b1_4 : Int) (b1_5 : Int) (b1_6 : Int) (b1_7 : Int) (b1_8 : Int) (b1_9 : Int) (b1_10 : Int) (b1_11 : Int) (b1_12 : Int) (b1_13 : Int) : s_spec_SameConstruction_5.T := ((((), ()), ((), ()), (x5, ()), ()), ((b0_0, b0_1, b0_2, b0_3, b0_4, b0_5, b0_6, b0_7, b0_8, b0_9, b0_10, b0_11, b0_12, b0_13, ()), (b1_0, b1_1, b1_2, b1_3, b1_4, b1_5, b1_6, b1_7, b1_8, b1_9, b1_10, b1_11, b1_12, b1_13, ()), ()), ())
noncomputable def u_spec_SameConstruction_5 {R : Type} (nx : s_spec_SameConstruction_5.T → Option R) (hx : exH R x_spec_SameConstruction_5) (x5 : Int) (b0_0 : ByteArray) (b0_1 : Int) (b0_2 : List ByteArray) (b0_3 : Int) (b0_4 : Int) (b0_5 : Int) (b0_6 : Int) (b0_7 : Int) (b0_8 : Int) (b0_9 : Int) (b0_10 : Int) (b0_11 : Int) (b0_12 : Int) (b0_13 : Int) (b1_0 : ByteArray) (b1_1 : Int) (b1_2 : List ByteArray) (b1_3 : Int) (b1_4 : Int) (b1_5 : Int) (b1_6 : Int) (b1_7 : Int) (b1_8 : Int) (b1_9 : Int) (b1_10 : Int) (b1_11 : Int) (b1_12 : Int) (b1_13 : Int) : Option R :=
  cond (decide (x5 < (((List.length b0_2) : Nat) : Int)))
  (Option.bind (idx b0_2 x5) fun y69 =>
   Option.bind (idx b1_2 x5) fun y70 =>
   cond (!((ByteArray.toList y69) == (ByteArray.toList y70)))
   (hx.1 (d_spec_SameConstruction_5_0 Bool.false))
   (nx (m_spec_SameConstruction_5 (IntKind.wrap IntKind.i64 (x5 + (1 : Int))) b0_0 b0_1 b0_2 b0_3 b0_4 b0_5 b0_6 b0_7 b0_8 b0_9 b0_10 b0_11 b0_12 b0_13 b1_0 b1_1 b1_2 b1_3 b1_4 b1_5 b1_6 b1_7 b1_8 b1_9 b1_10 b1_11 b1_12 b1_13)))
  (hx.2.1 (d_spec_SameConstruction_5_1))
noncomputable def t_spec_SameConstruction_5 {R : Type} (nx : s_spec_SameConstruction_5.T → Option R) (hx : exH R x_spec_SameConstruction_5) (z : s_spec_SameConstruction_5.T) : Option R := u_spec_SameConstruction_5 nx hx z.1.2.2.1.1 z.2.1.1.1 z.2.1.1.2.1 z.2.1.1.2.2.1 z.2.1.1.2.2.2.1 z.2.1.1.2.2.2.2.1 z.2.1.1.2.2.2.2.2.1 z.2.1.1.2.2.2.2.2.2.1 z.2.1.1.2.2.2.2.2.2.2.1 z.2.1.1.2.2.2.2.2.2.2.2.1 z.2.1.1.2.2.2.2.2.2.2.2.2.1 z.2.1.1.2.2.2.2.2.2.2.2.2.2.1 z.2.1.1.2.2.2.2.2.2.2.2.2.2.2.1 z.2.1.1.2.2.2.2.2.2.2.2.2.2.2.2.1 z.2.1.1.2.2.2.2.2.2.2.2.2.2.2.2.2.1 z.2.1.2.1.1 z.2.1.2.1.2.1 z.2.1.2.1.2.2.1 z.2.1.2.1.2.2.2.1 z.2.1.2.1.2.2.2.2.1 z.2.1.2.1.2.2.2.2.2.1 z.2.1.2.1.2.2.2.2.2.2.1 z.2.1.2.1.2.2.2.2.2.2.2.1 z.2.1.2.1.2.2.2.2.2.2.2.2.1 z.2.1.2.1.2.2.2.2.2.2.2.2.2.1 z.2.1.2.1.2.2.2.2.2.2.2.2.2.2.1 z.2.1.2.1.2.2.2.2.2.2.2.2.2.2.2.1 z.2.1.2.1.2.2.2.2.2.2.2.2.2.2.2.2.1 z.2.1.2.1.2.2.2.2.2.2.2.2.2.2.2.2.2.1
theorem nat_spec_SameConstruction_5 : Natural @t_spec_SameConstruction_5 := fun R nx hx z => by
  show u_spec_SameConstruction_5 nx hx z.1.2.2.1.1 z.2.1.1.1 z.2.1.1.2.1 z.2.1.1.2.2.1 z.2.1.1.2.2.2.1 z.2.1.1.2.2.2.2.1 z.2.1.1.2.2.2.2.2.1 z.2.1.1.2.2.2.2.2.2.1 z.2.1.1.2.2.2.2.2.2.2.1 z.2.1.1.2.2.2.2.2.2.2.2.1 z.2.1.1.2.2.2.2.2.2.2.2.2.1 z.2.1.1.2.2.2.2.2.2.2.2.2.2.1 z.2.1.1.2.2.2.2.2.2.2.2.2.2.2.1 z.2.1.1.2.2.2.2.2.2.2.2.2.2.2.2.1 z.2.1.1.2.2.2.2.2.2.2.2.2.2.2.2.2.1 z.2.1.2.1.1 z.2.1.2.1.2.1 z.2.1.2.1.2.2.1 z.2.1.2.1.2.2.2.1 z.2.1.2.1.2.2.2.2.1 z.2.1.2.1.2.2.2.2.2.1 z.2.1.2.1.2.2.2.2.2.2.1 z.2.1.2.1.2.2.2.2.2.2.2.1 z.2.1.2.1.2.2.2.2.2.2.2.2.1 z.2.1.2.1.2.2.2.2.2.2.2.2.2.1 z.2.1.2.1.2.2.2.2.2.2.2.2.2.2.1 z.2.1.2.1.2.2.2.2.2.2.2.2.2.2.2.1 z.2.1.2.1.2.2.2.2.2.2.2.2.2.2.2.2.1 z.2.1.2.1.2.2.2.2.2.2.2.2.2.2.2.2.2.1 = (u_spec_SameConstruction_5 (fun y => some (.inl y)) (hIn x_spec_SameConstruction_5 fun x => some (.inr x)) z.1.2.2.1.1 z.2.1.1.1 z.2.1.1.2.1 z.2.1.1.2.2.1 z.2.1.1.2.2.2.1 z.2.1.1.2.2.2.2.1 z.2.1.1.2.2.2.2.2.1 z.2.1.1.2.2.2.2.2.2.1 z.2.1.1.2.2.2.2.2.2.2.1 z.2.1.1.2.2.2.2.2.2.2.2.1 z.2.1.1.2.2.2.2.2.2.2.2.2.1 z.2.1.1.2.2.2.2.2.2.2.2.2.2.1 z.2.1.1.2.2.2.2.2.2.2.2.2.2.2.1 z.2.1.1.2.2.2.2.2.2.2.2.2.2.2.2.1 z.2.1.1.2.2.2.2.2.2.2.2.2.2.2.2.2.1 z.2.1.2.1.1 z.2.1.2.1.2.1 z.2.1.2.1.2.2.1 z.2.1.2.1.2.2.2.1 z.2.1.2.1.2.2.2.2.1 z.2.1.2.1.2.2.2.2.2.1 z.2.1.2.1.2.2.2.2.2.2.1 z.2.1.2.1.2.2.2.2.2.2.2.1 z.2.1.2.1.2.2.2.2.2.2.2.2.1 z.2.1.2.1.2.2.2.2.2.2.2.2.2.1 z.2.1.2.1.2.2.2.2.2.2.2.2.2.2.1 z.2.1.2.1.2.2.2.2.2.2.2.2.2.2.2.1 z.2.1.2.1.2.2.2.2.2.2.2.2.2.2.2.2.1 z.2.1.2.1.2.2.2.2.2.2.2.2.2.2.2.2.2.1).bind (goOn nx hx)
  unfold u_spec_SameConstruction_5
  exact nat_cond (nat_bind fun _ => nat_bind fun _ => nat_cond (rfl) (rfl)) (rfl)
noncomputable def w_spec_SameConstruction_5 : s_spec_SameConstruction_5.T → Option (exT x_spec_SameConstruction_5) := wOf @t_spec_SameConstruction_5
theorem wq_spec_SameConstruction_5 (x5 : Int) (b0_0 : ByteArray) (b0_1 : Int) (b0_2 : List ByteArray) (b0_3 : Int) (b0_4 : Int) (b0_5 : Int) (b0_6 : Int) (b0_7 : Int) (b0_8 : Int) (b0_9 : Int) (b0_10 : Int) (b0_11 : Int) (b0_12 : Int) (b0_13 : Int) (b1_0 : ByteArray) (b1_1 : Int) (b1_2 : List ByteArray) (b1_3 : Int) (b1_4 : Int) (b1_5 : Int) (b1_6 : Int) (b1_7 : Int) (b1_8 : Int) (b1_9 : Int) (b1_10 : Int) (b1_11 : Int) (b1_12 : Int) (b1_13 : Int) : w_spec_SameConstruction_5 (m_spec_SameConstruction_5 x5 b0_0 b0_1 b0_2 b0_3 b0_4 b0_5 b0_6 b0_7 b0_8 b0_9 b0_10 b0_11 b0_12 b0_13 b1_0 b1_1 b1_2 b1_3 b1_4 b1_5 b1_6 b1_7 b1_8 b1_9 b1_10 b1_11 b1_12 b1_13) = u_spec_SameConstruction_5 w_spec_SameConstruction_5 (hIn x_spec_SameConstruction_5 some) x5 b0_0 b0_1 b0_2 b0_3 b0_4 b0_5 b0_6 b0_7 b0_8 b0_9 b0_10 b0_11 b0_12 b0_13 b1_0 b1_1 b1_2 b1_3 b1_4 b1_5 b1_6 b1_7 b1_8 b1_9 b1_10 b1_11 b1_12 b1_13 := wOf_eq nat_spec_SameConstruction_5 _
def lh_spec_SameConstruction_5 : LoopHint := ⟨[2, 3, 5], [2, 3], [4], []⟩
noncomputable def h_spec_SameConstruction : Hints Rv := ⟨fun k => match k with | 5 => lh_spec_SameConstruction_5 | _ => ⟨[], [], [], []⟩, fun k => match k with | 5 => some (loopX s_spec_SameConstruction_5 x_spec_SameConstruction_5 w_spec_SameConstruction_5) | _ => none⟩
theorem st_spec_SameConstruction_5 (n : Nat) (z : s_spec_SameConstruction_5.T) (k : Ex → Live → Option Rv) : loopN ⟨66, 66⟩ lh_spec_SameConstruction_5 (den (tab C0 T_spec_SameConstruction) ⟨66, 66⟩ h_spec_SameConstruction 1 (loopOf Try.f20 4)) (n + 1) (s_spec_SameConstruction_5.enc z) k =
    t_spec_SameConstruction_5 (fun y => loopN ⟨66, 66⟩ lh_spec_SameConstruction_5 (den (tab C0 T_spec_SameConstruction) ⟨66, 66⟩ h_spec_SameConstruction 1 (loopOf Try.f20 4)) n (s_spec_SameConstruction_5.enc y) k) (hK k x_spec_SameConstruction_5) z := by kernel_rfl
theorem hs_spec_SameConstruction : HintsOk (tab C0 T_spec_SameConstruction) ⟨66, 66⟩ h_spec_SameConstruction 1 (loops (codeOf Try.f20)) := by
  have hl : loops (codeOf Try.f20) = [loopOf Try.f20 4] := by kernel_rfl
  rw [hl]
  exact HintsOk.cons (n := 5) (lh := lh_spec_SameConstruction_5) (S := loopX s_spec_SameConstruction_5 x_spec_SameConstruction_5 w_spec_SameConstruction_5) (by kernel_rfl) rfl rfl (loopX_ok nat_spec_SameConstruction_5 st_spec_SameConstruction_5)
    (HintsOk.nil)
noncomputable def t_spec_SameConstruction {R : Type} (kx : Bool → Option R) (a0 : (ByteArray × (Int × ((List ByteArray) × (Int × (((Int × (Int × Int)) × (Int × (Int × Int))) × (Int × (Int × (Int × Int))))))))) (a1 : (ByteArray × (Int × ((List ByteArray) × (Int × (((Int × (Int × Int)) × (Int × (Int × Int))) × (Int × (Int × (Int × Int))))))))) : Option R :=
  cond (!((ByteArray.toList a0.1) == (ByteArray.toList a1.1)))
  (kx Bool.false)
  (cond (a0.2.1 != a1.2.1)
   (kx Bool.false)
   (cond (a0.2.2.2.1 != a1.2.2.2.1)
    (kx Bool.false)
    (cond (!(((a0.2.2.2.2.1.1.1 == a1.2.2.2.2.1.1.1) && ((a0.2.2.2.2.1.1.2.1 == a1.2.2.2.2.1.1.2.1) && ((a0.2.2.2.2.1.1.2.2 == a1.2.2.2.2.1.1.2.2) && Bool.true))) && (((a0.2.2.2.2.1.2.1 == a1.2.2.2.2.1.2.1) && ((a0.2.2.2.2.1.2.2.1 == a1.2.2.2.2.1.2.2.1) && ((a0.2.2.2.2.1.2.2.2 == a1.2.2.2.2.1.2.2.2) && Bool.true))) && Bool.true)))
     (kx Bool.false)
     (cond (!((a0.2.2.2.2.2.1 == a1.2.2.2.2.2.1) && (((a0.2.2.2.2.2.2.1 == a1.2.2.2.2.2.2.1) && ((a0.2.2.2.2.2.2.2.1 == a1.2.2.2.2.2.2.2.1) && ((a0.2.2.2.2.2.2.2.2 == a1.2.2.2.2.2.2.2.2) && Bool.true))) && Bool.true)))
      (kx Bool.false)
      (cond ((((List.length a0.2.2.1) : Nat) : Int) != (((List.length a1.2.2.1) : Nat) : Int))
       (kx Bool.false)
       (Option.bind (w_spec_SameConstruction_5 (m_spec_SameConstruction_5 (0 : Int) a0.1 a0.2.1 a0.2.2.1 a0.2.2.2.1 a0.2.2.2.2.1.1.1 a0.2.2.2.2.1.1.2.1 a0.2.2.2.2.1.1.2.2 a0.2.2.2.2.1.2.1 a0.2.2.2.2.1.2.2.1 a0.2.2.2.2.1.2.2.2 a0.2.2.2.2.2.1 a0.2.2.2.2.2.2.1 a0.2.2.2.2.2.2.2.1 a0.2.2.2.2.2.2.2.2 a1.1 a1.2.1 a1.2.2.1 a1.2.2.2.1 a1.2.2.2.2.1.1.1 a1.2.2.2.2.1.1.2.1 a1.2.2.2.2.1.1.2.2 a1.2.2.2.2.1.2.1 a1.2.2.2.2.1.2.2.1 a1.2.2.2.2.1.2.2.2 a1.2.2.2.2.2.1 a1.2.2.2.2.2.2.1 a1.2.2.2.2.2.2.2.1 a1.2.2.2.2.2.2.2.2)) (exC x_spec_SameConstruction_5
        (fun e71 =>
         kx (e71.1.1.1 : Bool), fun _ =>
         kx Bool.true, ()))))))))
noncomputable def g_spec_SameConstruction (a0 : (ByteArray × (Int × ((List ByteArray) × (Int × (((Int × (Int × Int)) × (Int × (Int × Int))) × (Int × (Int × (Int × Int))))))))) (a1 : (ByteArray × (Int × ((List ByteArray) × (Int × (((Int × (Int × Int)) × (Int × (Int × Int))) × (Int × (Int × (Int × Int))))))))) : Option (Bool) := t_spec_SameConstruction some a0 a1
theorem nat_spec_SameConstruction {R : Type} (kx : Bool → Option R) (a0 : (ByteArray × (Int × ((List ByteArray) × (Int × (((Int × (Int × Int)) × (Int × (Int × Int))) × (Int × (Int × (Int × Int))))))))) (a1 : (ByteArray × (Int × ((List ByteArray) × (Int × (((Int × (Int × Int)) × (Int × (Int × Int))) × (Int × (Int × (Int × Int))))))))) : t_spec_SameConstruction kx a0 a1 = (g_spec_SameConstruction a0 a1).bind kx := by
  unfold g_spec_SameConstruction t_spec_SameConstruction
  exact nat_cond (rfl) (nat_cond (rfl) (nat_cond (rfl) (nat_cond (rfl) (nat_cond (rfl) (nat_cond (rfl) (nat_exC ⟨fun _ => rfl, fun _ => rfl, trivial⟩))))))
abbrev as_spec_SameConstruction : List AX := [.val true (.pair .str (.pair (.int .i64) (.pair (.slice .str) (.pair (.int .i64) (.pair (.pair (.pair (.int .i64) (.pair (.int .i64) (.int .i64))) (.pair (.int .i64) (.pair (.int .i64) (.int .i64)))) (.pair (.int .i64) (.pair (.int .i64) (.pair (.int .i64) (.int .i64))))))))), .val true (.pair .str (.pair (.int .i64) (.pair (.slice .str) (.pair (.int .i64) (.pair (.pair (.pair (.int .i64) (.pair (.int .i64) (.int .i64))) (.pair (.int .i64) (.pair (.int .i64) (.int .i64)))) (.pair (.int .i64) (.pair (.int .i64) (.pair (.int .i64) (.int .i64)))))))))]
abbrev en_spec_SameConstruction : Bool → AV × List CV := fun b => (.one ⟨false, [(.v (.bool b))]⟩, [])
noncomputable abbrev k_spec_SameConstruction : Contract := .fx as_spec_SameConstruction (Bool) (fun z => g_spec_SameConstruction z.1 z.2.1) en_spec_SameConstruction
theorem r_spec_SameConstruction (z : argsX as_spec_SameConstruction) : runF (tab C0 T_spec_SameConstruction) h_spec_SameConstruction 1 Try.f20 (lentOf as_spec_SameConstruction) (xBoxes as_spec_SameConstruction z) (xVals as_spec_SameConstruction 0 z) K2 = t_spec_SameConstruction (fun b => some (en_spec_SameConstruction b)) z.1 z.2.1 := by kernel_rfl
theorem so_spec_SameConstruction : Sound C0 20 k_spec_SameConstruction :=
  Sound.fx a_spec_SameConstruction mixed Try.func20 (by kernel_rfl) (by kernel_rfl) h_spec_SameConstruction 1 hs_spec_SameConstruction (fun z => (r_spec_SameConstruction z).trans (nat_spec_SameConstruction _ z.1 z.2.1))

/-! ### F46 slices.Equal[[]string,string] -/
noncomputable def T_slices_Equal_Sstring_string : List (FuncId × Contract) := []
theorem a_slices_Equal_Sstring_string : AllSound C0 T_slices_Equal_Sstring_string := .nil
abbrev s_slices_Equal_Sstring_string_5 : LS := ⟨[(false, [(.sl .str)]), (false, [(.sl .str)]), (false, [(.int .i64)]), (false, [(.int .i64)])], [], []⟩
abbrev e_slices_Equal_Sstring_string_5_0 : LS := ⟨[(false, [.bool])], [], []⟩
abbrev d_slices_Equal_Sstring_string_5_0 (v0 : Bool) : e_slices_Equal_Sstring_string_5_0.T := (((v0, ()), ()), (), ())
abbrev e_slices_Equal_Sstring_string_5_1 : LS := ⟨[(false, [.undef])], [], []⟩
abbrev d_slices_Equal_Sstring_string_5_1 : e_slices_Equal_Sstring_string_5_1.T := ((((), ()), ()), (), ())
abbrev x_slices_Equal_Sstring_string_5 : List (Ex × LS) := [(.ret, e_slices_Equal_Sstring_string_5_0), (.exit 0, e_slices_Equal_Sstring_string_5_1)]
abbrev m_slices_Equal_Sstring_string_5 (x0 : List ByteArray) (x1 : List ByteArray) (x12 : Int) (x13 : Int) : s_slices_Equal_Sstring_string_5.T := (((x0, ()), (x1, ()), (x12, ()), (x13, ()), ()), (), ())
noncomputable def u_slices_Equal_Sstring_string_5 {R : Type} (nx : s_slices_Equal_Sstring_string_5.T → Option R) (hx : exH R x_slices_Equal_Sstring_string_5) (x0 : List ByteArray) (x1 : List ByteArray) (x12 : Int) (x13 : Int) : Option R :=
  cond (decide (x13 < x12))
  (Option.bind (idx x0 x13) fun y85 =>
   Option.bind (idx x1 x13) fun y86 =>
   cond (!((ByteArray.toList y85) == (ByteArray.toList y86)))
   (hx.1 (d_slices_Equal_Sstring_string_5_0 Bool.false))
   (nx (m_slices_Equal_Sstring_string_5 x0 x1 x12 (IntKind.wrap IntKind.i64 (x13 + (1 : Int))))))
  (hx.2.1 (d_slices_Equal_Sstring_string_5_1))
noncomputable def t_slices_Equal_Sstring_string_5 {R : Type} (nx : s_slices_Equal_Sstring_string_5.T → Option R) (hx : exH R x_slices_Equal_Sstring_string_5) (z : s_slices_Equal_Sstring_string_5.T) : Option R := u_slices_Equal_Sstring_string_5 nx hx z.1.1.1 z.1.2.1.1 z.1.2.2.1.1 z.1.2.2.2.1.1
theorem nat_slices_Equal_Sstring_string_5 : Natural @t_slices_Equal_Sstring_string_5 := fun R nx hx z => by
  show u_slices_Equal_Sstring_string_5 nx hx z.1.1.1 z.1.2.1.1 z.1.2.2.1.1 z.1.2.2.2.1.1 = (u_slices_Equal_Sstring_string_5 (fun y => some (.inl y)) (hIn x_slices_Equal_Sstring_string_5 fun x => some (.inr x)) z.1.1.1 z.1.2.1.1 z.1.2.2.1.1 z.1.2.2.2.1.1).bind (goOn nx hx)
  unfold u_slices_Equal_Sstring_string_5
  exact nat_cond (nat_bind fun _ => nat_bind fun _ => nat_cond (rfl) (rfl)) (rfl)
noncomputable def w_slices_Equal_Sstring_string_5 : s_slices_Equal_Sstring_string_5.T → Option (exT x_slices_Equal_Sstring_string_5) := wOf @t_slices_Equal_Sstring_string_5
theorem wq_slices_Equal_Sstring_string_5 (x0 : List ByteArray) (x1 : List ByteArray) (x12 : Int) (x13 : Int) : w_slices_Equal_Sstring_string_5 (m_slices_Equal_Sstring_string_5 x0 x1 x12 x13) = u_slices_Equal_Sstring_string_5 w_slices_Equal_Sstring_string_5 (hIn x_slices_Equal_Sstring_string_5 some) x0 x1 x12 x13 := wOf_eq nat_slices_Equal_Sstring_string_5 _
def lh_slices_Equal_Sstring_string_5 : LoopHint := ⟨[0, 1, 12, 13], [], [4], []⟩
noncomputable def h_slices_Equal_Sstring_string : Hints Rv := ⟨fun k => match k with | 5 => lh_slices_Equal_Sstring_string_5 | _ => ⟨[], [], [], []⟩, fun k => match k with | 5 => some (loopX s_slices_Equal_Sstring_string_5 x_slices_Equal_Sstring_string_5 w_slices_Equal_Sstring_string_5) | _ => none⟩
theorem st_slices_Equal_Sstring_string_5 (n : Nat) (z : s_slices_Equal_Sstring_string_5.T) (k : Ex → Live → Option Rv) : loopN ⟨26, 26⟩ lh_slices_Equal_Sstring_string_5 (den (tab C0 T_slices_Equal_Sstring_string) ⟨26, 26⟩ h_slices_Equal_Sstring_string 1 (loopOf Try.f46 4)) (n + 1) (s_slices_Equal_Sstring_string_5.enc z) k =
    t_slices_Equal_Sstring_string_5 (fun y => loopN ⟨26, 26⟩ lh_slices_Equal_Sstring_string_5 (den (tab C0 T_slices_Equal_Sstring_string) ⟨26, 26⟩ h_slices_Equal_Sstring_string 1 (loopOf Try.f46 4)) n (s_slices_Equal_Sstring_string_5.enc y) k) (hK k x_slices_Equal_Sstring_string_5) z := by kernel_rfl
theorem hs_slices_Equal_Sstring_string : HintsOk (tab C0 T_slices_Equal_Sstring_string) ⟨26, 26⟩ h_slices_Equal_Sstring_string 1 (loops (codeOf Try.f46)) := by
  have hl : loops (codeOf Try.f46) = [loopOf Try.f46 4] := by kernel_rfl
  rw [hl]
  exact HintsOk.cons (n := 5) (lh := lh_slices_Equal_Sstring_string_5) (S := loopX s_slices_Equal_Sstring_string_5 x_slices_Equal_Sstring_string_5 w_slices_Equal_Sstring_string_5) (by kernel_rfl) rfl rfl (loopX_ok nat_slices_Equal_Sstring_string_5 st_slices_Equal_Sstring_string_5)
    (HintsOk.nil)
noncomputable def t_slices_Equal_Sstring_string {R : Type} (kx : Bool → Option R) (a0 : (List ByteArray)) (a1 : (List ByteArray)) : Option R :=
  cond ((((List.length a0) : Nat) : Int) != (((List.length a1) : Nat) : Int))
  (kx Bool.false)
  (Option.bind (w_slices_Equal_Sstring_string_5 (m_slices_Equal_Sstring_string_5 a0 a1 (((List.length a0) : Nat) : Int) (0 : Int))) (exC x_slices_Equal_Sstring_string_5
   (fun e87 =>
    kx (e87.1.1.1 : Bool), fun _ =>
    kx Bool.true, ())))
noncomputable def g_slices_Equal_Sstring_string (a0 : (List ByteArray)) (a1 : (List ByteArray)) : Option (Bool) := t_slices_Equal_Sstring_string some a0 a1
theorem nat_slices_Equal_Sstring_string {R : Type} (kx : Bool → Option R) (a0 : (List ByteArray)) (a1 : (List ByteArray)) : t_slices_Equal_Sstring_string kx a0 a1 = (g_slices_Equal_Sstring_string a0 a1).bind kx := by
  unfold g_slices_Equal_Sstring_string t_slices_Equal_Sstring_string
  exact nat_cond (rfl) (nat_exC ⟨fun _ => rfl, fun _ => rfl, trivial⟩)
abbrev as_slices_Equal_Sstring_string : List AX := [.val false (.slice .str), .val false (.slice .str)]
abbrev en_slices_Equal_Sstring_string : Bool → AV × List CV := fun b => (.one ⟨false, [(.v (.bool b))]⟩, [])
noncomputable abbrev k_slices_Equal_Sstring_string : Contract := .fx as_slices_Equal_Sstring_string (Bool) (fun z => g_slices_Equal_Sstring_string z.1 z.2.1) en_slices_Equal_Sstring_string
theorem r_slices_Equal_Sstring_string (z : argsX as_slices_Equal_Sstring_string) : runF (tab C0 T_slices_Equal_Sstring_string) h_slices_Equal_Sstring_string 1 Try.f46 (lentOf as_slices_Equal_Sstring_string) (xBoxes as_slices_Equal_Sstring_string z) (xVals as_slices_Equal_Sstring_string 0 z) K2 = t_slices_Equal_Sstring_string (fun b => some (en_slices_Equal_Sstring_string b)) z.1 z.2.1 := by kernel_rfl
theorem so_slices_Equal_Sstring_string : Sound C0 46 k_slices_Equal_Sstring_string :=
  Sound.fx a_slices_Equal_Sstring_string mixed Try.func46 (by kernel_rfl) (by kernel_rfl) h_slices_Equal_Sstring_string 1 hs_slices_Equal_Sstring_string (fun z => (r_slices_Equal_Sstring_string z).trans (nat_slices_Equal_Sstring_string _ z.1 z.2.1))

/-! ### F22 impl.SameConstruction -/
noncomputable def T_impl_SameConstruction : List (FuncId × Contract) := [(46, k_slices_Equal_Sstring_string)]
theorem a_impl_SameConstruction : AllSound C0 T_impl_SameConstruction := .cons so_slices_Equal_Sstring_string (.nil)
noncomputable def t_impl_SameConstruction {R : Type} (kx : Bool → Option R) (a0 : (ByteArray × (Int × ((List ByteArray) × (Int × (((Int × (Int × Int)) × (Int × (Int × Int))) × (Int × (Int × (Int × Int))))))))) (a1 : (ByteArray × (Int × ((List ByteArray) × (Int × (((Int × (Int × Int)) × (Int × (Int × Int))) × (Int × (Int × (Int × Int))))))))) : Option R :=
  cond ((ByteArray.toList a0.1) == (ByteArray.toList a1.1))
  (cond (a0.2.1 == a1.2.1)
   (Option.bind (g_slices_Equal_Sstring_string a0.2.2.1 a1.2.2.1) fun y90 =>
    cond y90
    (cond (a0.2.2.2.1 == a1.2.2.2.1)
     (cond (((a0.2.2.2.2.1.1.1 == a1.2.2.2.2.1.1.1) && ((a0.2.2.2.2.1.1.2.1 == a1.2.2.2.2.1.1.2.1) && ((a0.2.2.2.2.1.1.2.2 == a1.2.2.2.2.1.1.2.2) && Bool.true))) && (((a0.2.2.2.2.1.2.1 == a1.2.2.2.2.1.2.1) && ((a0.2.2.2.2.1.2.2.1 == a1.2.2.2.2.1.2.2.1) && ((a0.2.2.2.2.1.2.2.2 == a1.2.2.2.2.1.2.2.2) && Bool.true))) && Bool.true))
      (kx ((a0.2.2.2.2.2.1 == a1.2.2.2.2.2.1) && (((a0.2.2.2.2.2.2.1 == a1.2.2.2.2.2.2.1) && ((a0.2.2.2.2.2.2.2.1 == a1.2.2.2.2.2.2.2.1) && ((a0.2.2.2.2.2.2.2.2 == a1.2.2.2.2.2.2.2.2) && Bool.true))) && Bool.true)))
      (kx Bool.false))
     (kx Bool.false))
    (kx Bool.false))
   (kx Bool.false))
  (kx Bool.false)
noncomputable def g_impl_SameConstruction (a0 : (ByteArray × (Int × ((List ByteArray) × (Int × (((Int × (Int × Int)) × (Int × (Int × Int))) × (Int × (Int × (Int × Int))))))))) (a1 : (ByteArray × (Int × ((List ByteArray) × (Int × (((Int × (Int × Int)) × (Int × (Int × Int))) × (Int × (Int × (Int × Int))))))))) : Option (Bool) := t_impl_SameConstruction some a0 a1
theorem nat_impl_SameConstruction {R : Type} (kx : Bool → Option R) (a0 : (ByteArray × (Int × ((List ByteArray) × (Int × (((Int × (Int × Int)) × (Int × (Int × Int))) × (Int × (Int × (Int × Int))))))))) (a1 : (ByteArray × (Int × ((List ByteArray) × (Int × (((Int × (Int × Int)) × (Int × (Int × Int))) × (Int × (Int × (Int × Int))))))))) : t_impl_SameConstruction kx a0 a1 = (g_impl_SameConstruction a0 a1).bind kx := by
  unfold g_impl_SameConstruction t_impl_SameConstruction
  exact nat_cond (nat_cond (nat_bind fun _ => nat_cond (nat_cond (nat_cond (rfl) (rfl)) (rfl)) (rfl)) (rfl)) (rfl)
abbrev as_impl_SameConstruction : List AX := [.val true (.pair .str (.pair (.int .i64) (.pair (.slice .str) (.pair (.int .i64) (.pair (.pair (.pair (.int .i64) (.pair (.int .i64) (.int .i64))) (.pair (.int .i64) (.pair (.int .i64) (.int .i64)))) (.pair (.int .i64) (.pair (.int .i64) (.pair (.int .i64) (.int .i64))))))))), .val true (.pair .str (.pair (.int .i64) (.pair (.slice .str) (.pair (.int .i64) (.pair (.pair (.pair (.int .i64) (.pair (.int .i64) (.int .i64))) (.pair (.int .i64) (.pair (.int .i64) (.int .i64)))) (.pair (.int .i64) (.pair (.int .i64) (.pair (.int .i64) (.int .i64)))))))))]
abbrev en_impl_SameConstruction : Bool → AV × List CV := fun b => (.one ⟨false, [(.v (.bool b))]⟩, [])
noncomputable abbrev k_impl_SameConstruction : Contract := .fx as_impl_SameConstruction (Bool) (fun z => g_impl_SameConstruction z.1 z.2.1) en_impl_SameConstruction
theorem r_impl_SameConstruction (z : argsX as_impl_SameConstruction) : runF (tab C0 T_impl_SameConstruction) noHints 1 Try.f22 (lentOf as_impl_SameConstruction) (xBoxes as_impl_SameConstruction z) (xVals as_impl_SameConstruction 0 z) K2 = t_impl_SameConstruction (fun b => some (en_impl_SameConstruction b)) z.1 z.2.1 := by kernel_rfl
theorem so_impl_SameConstruction : Sound C0 22 k_impl_SameConstruction :=
  Sound.fx a_impl_SameConstruction mixed Try.func22 (by kernel_rfl) (by kernel_rfl) noHints 1 noHints_ok (fun z => (r_impl_SameConstruction z).trans (nat_impl_SameConstruction _ z.1 z.2.1))

/-! ### F47 laws.eqStringS -/
noncomputable def T_laws_eqStringS : List (FuncId × Contract) := []
theorem a_laws_eqStringS : AllSound C0 T_laws_eqStringS := .nil
abbrev s_laws_eqStringS_5 : LS := ⟨[(false, [(.sl .str)]), (false, [(.sl .str)]), (false, [(.int .i64)])], [], []⟩
abbrev e_laws_eqStringS_5_0 : LS := ⟨[(false, [.bool])], [], []⟩
abbrev d_laws_eqStringS_5_0 (v0 : Bool) : e_laws_eqStringS_5_0.T := (((v0, ()), ()), (), ())
abbrev e_laws_eqStringS_5_1 : LS := ⟨[(false, [.undef])], [], []⟩
abbrev d_laws_eqStringS_5_1 : e_laws_eqStringS_5_1.T := ((((), ()), ()), (), ())
abbrev x_laws_eqStringS_5 : List (Ex × LS) := [(.ret, e_laws_eqStringS_5_0), (.exit 0, e_laws_eqStringS_5_1)]
abbrev m_laws_eqStringS_5 (x0 : List ByteArray) (x1 : List ByteArray) (x5 : Int) : s_laws_eqStringS_5.T := (((x0, ()), (x1, ()), (x5, ()), ()), (), ())
noncomputable def u_laws_eqStringS_5 {R : Type} (nx : s_laws_eqStringS_5.T → Option R) (hx : exH R x_laws_eqStringS_5) (x0 : List ByteArray) (x1 : List ByteArray) (x5 : Int) : Option R :=
  cond (decide (x5 < (((List.length x0) : Nat) : Int)))
  (Option.bind (idx x0 x5) fun y100 =>
   Option.bind (idx x1 x5) fun y101 =>
   cond (!((ByteArray.toList y100) == (ByteArray.toList y101)))
   (hx.1 (d_laws_eqStringS_5_0 Bool.false))
   (nx (m_laws_eqStringS_5 x0 x1 (IntKind.wrap IntKind.i64 (x5 + (1 : Int))))))
  (hx.2.1 (d_laws_eqStringS_5_1))
noncomputable def t_laws_eqStringS_5 {R : Type} (nx : s_laws_eqStringS_5.T → Option R) (hx : exH R x_laws_eqStringS_5) (z : s_laws_eqStringS_5.T) : Option R := u_laws_eqStringS_5 nx hx z.1.1.1 z.1.2.1.1 z.1.2.2.1.1
theorem nat_laws_eqStringS_5 : Natural @t_laws_eqStringS_5 := fun R nx hx z => by
  show u_laws_eqStringS_5 nx hx z.1.1.1 z.1.2.1.1 z.1.2.2.1.1 = (u_laws_eqStringS_5 (fun y => some (.inl y)) (hIn x_laws_eqStringS_5 fun x => some (.inr x)) z.1.1.1 z.1.2.1.1 z.1.2.2.1.1).bind (goOn nx hx)
  unfold u_laws_eqStringS_5
  exact nat_cond (nat_bind fun _ => nat_bind fun _ => nat_cond (rfl) (rfl)) (rfl)
noncomputable def w_laws_eqStringS_5 : s_laws_eqStringS_5.T → Option (exT x_laws_eqStringS_5) := wOf @t_laws_eqStringS_5
theorem wq_laws_eqStringS_5 (x0 : List ByteArray) (x1 : List ByteArray) (x5 : Int) : w_laws_eqStringS_5 (m_laws_eqStringS_5 x0 x1 x5) = u_laws_eqStringS_5 w_laws_eqStringS_5 (hIn x_laws_eqStringS_5 some) x0 x1 x5 := wOf_eq nat_laws_eqStringS_5 _
def lh_laws_eqStringS_5 : LoopHint := ⟨[0, 1, 5], [], [4], []⟩
noncomputable def h_laws_eqStringS : Hints Rv := ⟨fun k => match k with | 5 => lh_laws_eqStringS_5 | _ => ⟨[], [], [], []⟩, fun k => match k with | 5 => some (loopX s_laws_eqStringS_5 x_laws_eqStringS_5 w_laws_eqStringS_5) | _ => none⟩
theorem st_laws_eqStringS_5 (n : Nat) (z : s_laws_eqStringS_5.T) (k : Ex → Live → Option Rv) : loopN ⟨26, 26⟩ lh_laws_eqStringS_5 (den (tab C0 T_laws_eqStringS) ⟨26, 26⟩ h_laws_eqStringS 1 (loopOf Try.f47 4)) (n + 1) (s_laws_eqStringS_5.enc z) k =
    t_laws_eqStringS_5 (fun y => loopN ⟨26, 26⟩ lh_laws_eqStringS_5 (den (tab C0 T_laws_eqStringS) ⟨26, 26⟩ h_laws_eqStringS 1 (loopOf Try.f47 4)) n (s_laws_eqStringS_5.enc y) k) (hK k x_laws_eqStringS_5) z := by kernel_rfl
theorem hs_laws_eqStringS : HintsOk (tab C0 T_laws_eqStringS) ⟨26, 26⟩ h_laws_eqStringS 1 (loops (codeOf Try.f47)) := by
  have hl : loops (codeOf Try.f47) = [loopOf Try.f47 4] := by kernel_rfl
  rw [hl]
  exact HintsOk.cons (n := 5) (lh := lh_laws_eqStringS_5) (S := loopX s_laws_eqStringS_5 x_laws_eqStringS_5 w_laws_eqStringS_5) (by kernel_rfl) rfl rfl (loopX_ok nat_laws_eqStringS_5 st_laws_eqStringS_5)
    (HintsOk.nil)
noncomputable def t_laws_eqStringS {R : Type} (kx : Bool → Option R) (a0 : (List ByteArray)) (a1 : (List ByteArray)) : Option R :=
  cond ((((List.length a0) : Nat) : Int) != (((List.length a1) : Nat) : Int))
  (kx Bool.false)
  (Option.bind (w_laws_eqStringS_5 (m_laws_eqStringS_5 a0 a1 (0 : Int))) (exC x_laws_eqStringS_5
   (fun e102 =>
    kx (e102.1.1.1 : Bool), fun _ =>
    kx Bool.true, ())))
noncomputable def g_laws_eqStringS (a0 : (List ByteArray)) (a1 : (List ByteArray)) : Option (Bool) := t_laws_eqStringS some a0 a1
theorem nat_laws_eqStringS {R : Type} (kx : Bool → Option R) (a0 : (List ByteArray)) (a1 : (List ByteArray)) : t_laws_eqStringS kx a0 a1 = (g_laws_eqStringS a0 a1).bind kx := by
  unfold g_laws_eqStringS t_laws_eqStringS
  exact nat_cond (rfl) (nat_exC ⟨fun _ => rfl, fun _ => rfl, trivial⟩)
abbrev as_laws_eqStringS : List AX := [.val false (.slice .str), .val false (.slice .str)]
abbrev en_laws_eqStringS : Bool → AV × List CV := fun b => (.one ⟨false, [(.v (.bool b))]⟩, [])
noncomputable abbrev k_laws_eqStringS : Contract := .fx as_laws_eqStringS (Bool) (fun z => g_laws_eqStringS z.1 z.2.1) en_laws_eqStringS
theorem r_laws_eqStringS (z : argsX as_laws_eqStringS) : runF (tab C0 T_laws_eqStringS) h_laws_eqStringS 1 Try.f47 (lentOf as_laws_eqStringS) (xBoxes as_laws_eqStringS z) (xVals as_laws_eqStringS 0 z) K2 = t_laws_eqStringS (fun b => some (en_laws_eqStringS b)) z.1 z.2.1 := by kernel_rfl
theorem so_laws_eqStringS : Sound C0 47 k_laws_eqStringS :=
  Sound.fx a_laws_eqStringS mixed Try.func47 (by kernel_rfl) (by kernel_rfl) h_laws_eqStringS 1 hs_laws_eqStringS (fun z => (r_laws_eqStringS z).trans (nat_laws_eqStringS _ z.1 z.2.1))

/-! ### F64 laws.eqNum -/
noncomputable def T_laws_eqNum : List (FuncId × Contract) := []
theorem a_laws_eqNum : AllSound C0 T_laws_eqNum := .nil
noncomputable def t_laws_eqNum {R : Type} (kx : Bool → Option R) (a0 : (Int × (Int × Int))) (a1 : (Int × (Int × Int))) : Option R :=
  cond (a0.1 != a1.1)
  (kx Bool.false)
  (cond (a0.2.1 != a1.2.1)
   (kx Bool.false)
   (cond (a0.2.2 != a1.2.2)
    (kx Bool.false)
    (kx Bool.true)))
noncomputable def g_laws_eqNum (a0 : (Int × (Int × Int))) (a1 : (Int × (Int × Int))) : Option (Bool) := t_laws_eqNum some a0 a1
theorem nat_laws_eqNum {R : Type} (kx : Bool → Option R) (a0 : (Int × (Int × Int))) (a1 : (Int × (Int × Int))) : t_laws_eqNum kx a0 a1 = (g_laws_eqNum a0 a1).bind kx := by
  unfold g_laws_eqNum t_laws_eqNum
  exact nat_cond (rfl) (nat_cond (rfl) (nat_cond (rfl) (rfl)))
abbrev as_laws_eqNum : List AX := [.val true (.pair (.int .i64) (.pair (.int .i64) (.int .i64))), .val true (.pair (.int .i64) (.pair (.int .i64) (.int .i64)))]
abbrev en_laws_eqNum : Bool → AV × List CV := fun b => (.one ⟨false, [(.v (.bool b))]⟩, [])
noncomputable abbrev k_laws_eqNum : Contract := .fx as_laws_eqNum (Bool) (fun z => g_laws_eqNum z.1 z.2.1) en_laws_eqNum
theorem r_laws_eqNum (z : argsX as_laws_eqNum) : runF (tab C0 T_laws_eqNum) noHints 1 Try.f64 (lentOf as_laws_eqNum) (xBoxes as_laws_eqNum z) (xVals as_laws_eqNum 0 z) K2 = t_laws_eqNum (fun b => some (en_laws_eqNum b)) z.1 z.2.1 := by kernel_rfl
theorem so_laws_eqNum : Sound C0 64 k_laws_eqNum :=
  Sound.fx a_laws_eqNum mixed Try.func64 (by kernel_rfl) (by kernel_rfl) noHints 1 noHints_ok (fun z => (r_laws_eqNum z).trans (nat_laws_eqNum _ z.1 z.2.1))

/-! ### F48 laws.eqPoint -/
noncomputable def T_laws_eqPoint : List (FuncId × Contract) := [(64, k_laws_eqNum)]
theorem a_laws_eqPoint : AllSound C0 T_laws_eqPoint := .cons so_laws_eqNum (.nil)
noncomputable def t_laws_eqPoint {R : Type} (kx : Bool → Option R) (a0 : ((Int × (Int × Int)) × (Int × (Int × Int)))) (a1 : ((Int × (Int × Int)) × (Int × (Int × Int)))) : Option R :=
  Option.bind (g_laws_eqNum a0.1 a1.1) fun y110 =>
  cond (!y110)
  (kx Bool.false)
  (Option.bind (g_laws_eqNum a0.2 a1.2) fun y111 =>
   cond (!y111)
   (kx Bool.false)
   (kx Bool.true))
noncomputable def g_laws_eqPoint (a0 : ((Int × (Int × Int)) × (Int × (Int × Int)))) (a1 : ((Int × (Int × Int)) × (Int × (Int × Int)))) : Option (Bool) := t_laws_eqPoint some a0 a1
theorem nat_laws_eqPoint {R : Type} (kx : Bool → Option R) (a0 : ((Int × (Int × Int)) × (Int × (Int × Int)))) (a1 : ((Int × (Int × Int)) × (Int × (Int × Int)))) : t_laws_eqPoint kx a0 a1 = (g_laws_eqPoint a0 a1).bind kx := by
  unfold g_laws_eqPoint t_laws_eqPoint
  exact nat_bind fun _ => nat_cond (rfl) (nat_bind fun _ => nat_cond (rfl) (rfl))
abbrev as_laws_eqPoint : List AX := [.val true (.pair (.pair (.int .i64) (.pair (.int .i64) (.int .i64))) (.pair (.int .i64) (.pair (.int .i64) (.int .i64)))), .val true (.pair (.pair (.int .i64) (.pair (.int .i64) (.int .i64))) (.pair (.int .i64) (.pair (.int .i64) (.int .i64))))]
abbrev en_laws_eqPoint : Bool → AV × List CV := fun b => (.one ⟨false, [(.v (.bool b))]⟩, [])
noncomputable abbrev k_laws_eqPoint : Contract := .fx as_laws_eqPoint (Bool) (fun z => g_laws_eqPoint z.1 z.2.1) en_laws_eqPoint
theorem r_laws_eqPoint (z : argsX as_laws_eqPoint) : runF (tab C0 T_laws_eqPoint) noHints 1 Try.f48 (lentOf as_laws_eqPoint) (xBoxes as_laws_eqPoint z) (xVals as_laws_eqPoint 0 z) K2 = t_laws_eqPoint (fun b => some (en_laws_eqPoint b)) z.1 z.2.1 := by kernel_rfl
theorem so_laws_eqPoint : Sound C0 48 k_laws_eqPoint :=
  Sound.fx a_laws_eqPoint mixed Try.func48 (by kernel_rfl) (by kernel_rfl) noHints 1 noHints_ok (fun z => (r_laws_eqPoint z).trans (nat_laws_eqPoint _ z.1 z.2.1))

/-! ### F49 laws.eqLine -/
noncomputable def T_laws_eqLine : List (FuncId × Contract) := [(64, k_laws_eqNum)]
theorem a_laws_eqLine : AllSound C0 T_laws_eqLine := .cons so_laws_eqNum (.nil)
noncomputable def t_laws_eqLine {R : Type} (kx : Bool → Option R) (a0 : (Int × (Int × (Int × Int)))) (a1 : (Int × (Int × (Int × Int)))) : Option R :=
  cond (a0.1 != a1.1)
  (kx Bool.false)
  (Option.bind (g_laws_eqNum a0.2 a1.2) fun y115 =>
   cond (!y115)
   (kx Bool.false)
   (kx Bool.true))
noncomputable def g_laws_eqLine (a0 : (Int × (Int × (Int × Int)))) (a1 : (Int × (Int × (Int × Int)))) : Option (Bool) := t_laws_eqLine some a0 a1
theorem nat_laws_eqLine {R : Type} (kx : Bool → Option R) (a0 : (Int × (Int × (Int × Int)))) (a1 : (Int × (Int × (Int × Int)))) : t_laws_eqLine kx a0 a1 = (g_laws_eqLine a0 a1).bind kx := by
  unfold g_laws_eqLine t_laws_eqLine
  exact nat_cond (rfl) (nat_bind fun _ => nat_cond (rfl) (rfl))
abbrev as_laws_eqLine : List AX := [.val true (.pair (.int .i64) (.pair (.int .i64) (.pair (.int .i64) (.int .i64)))), .val true (.pair (.int .i64) (.pair (.int .i64) (.pair (.int .i64) (.int .i64))))]
abbrev en_laws_eqLine : Bool → AV × List CV := fun b => (.one ⟨false, [(.v (.bool b))]⟩, [])
noncomputable abbrev k_laws_eqLine : Contract := .fx as_laws_eqLine (Bool) (fun z => g_laws_eqLine z.1 z.2.1) en_laws_eqLine
theorem r_laws_eqLine (z : argsX as_laws_eqLine) : runF (tab C0 T_laws_eqLine) noHints 1 Try.f49 (lentOf as_laws_eqLine) (xBoxes as_laws_eqLine z) (xVals as_laws_eqLine 0 z) K2 = t_laws_eqLine (fun b => some (en_laws_eqLine b)) z.1 z.2.1 := by kernel_rfl
theorem so_laws_eqLine : Sound C0 49 k_laws_eqLine :=
  Sound.fx a_laws_eqLine mixed Try.func49 (by kernel_rfl) (by kernel_rfl) noHints 1 noHints_ok (fun z => (r_laws_eqLine z).trans (nat_laws_eqLine _ z.1 z.2.1))

/-! ### F23 laws.eqConstruction -/
noncomputable def T_laws_eqConstruction : List (FuncId × Contract) := [(47, k_laws_eqStringS), (48, k_laws_eqPoint), (49, k_laws_eqLine)]
theorem a_laws_eqConstruction : AllSound C0 T_laws_eqConstruction := .cons so_laws_eqStringS (.cons so_laws_eqPoint (.cons so_laws_eqLine (.nil)))
noncomputable def t_laws_eqConstruction {R : Type} (kx : Bool → Option R) (a0 : (ByteArray × (Int × ((List ByteArray) × (Int × (((Int × (Int × Int)) × (Int × (Int × Int))) × (Int × (Int × (Int × Int))))))))) (a1 : (ByteArray × (Int × ((List ByteArray) × (Int × (((Int × (Int × Int)) × (Int × (Int × Int))) × (Int × (Int × (Int × Int))))))))) : Option R :=
  cond (!((ByteArray.toList a0.1) == (ByteArray.toList a1.1)))
  (kx Bool.false)
  (cond (a0.2.1 != a1.2.1)
   (kx Bool.false)
   (Option.bind (g_laws_eqStringS a0.2.2.1 a1.2.2.1) fun y105 =>
    cond (!y105)
    (kx Bool.false)
    (cond (a0.2.2.2.1 != a1.2.2.2.1)
     (kx Bool.false)
     (Option.bind (g_laws_eqPoint a0.2.2.2.2.1 a1.2.2.2.2.1) fun y112 =>
      cond (!y112)
      (kx Bool.false)
      (Option.bind (g_laws_eqLine a0.2.2.2.2.2 a1.2.2.2.2.2) fun y116 =>
       cond (!y116)
       (kx Bool.false)
       (kx Bool.true))))))
noncomputable def g_laws_eqConstruction (a0 : (ByteArray × (Int × ((List ByteArray) × (Int × (((Int × (Int × Int)) × (Int × (Int × Int))) × (Int × (Int × (Int × Int))))))))) (a1 : (ByteArray × (Int × ((List ByteArray) × (Int × (((Int × (Int × Int)) × (Int × (Int × Int))) × (Int × (Int × (Int × Int))))))))) : Option (Bool) := t_laws_eqConstruction some a0 a1
theorem nat_laws_eqConstruction {R : Type} (kx : Bool → Option R) (a0 : (ByteArray × (Int × ((List ByteArray) × (Int × (((Int × (Int × Int)) × (Int × (Int × Int))) × (Int × (Int × (Int × Int))))))))) (a1 : (ByteArray × (Int × ((List ByteArray) × (Int × (((Int × (Int × Int)) × (Int × (Int × Int))) × (Int × (Int × (Int × Int))))))))) : t_laws_eqConstruction kx a0 a1 = (g_laws_eqConstruction a0 a1).bind kx := by
  unfold g_laws_eqConstruction t_laws_eqConstruction
  exact nat_cond (rfl) (nat_cond (rfl) (nat_bind fun _ => nat_cond (rfl) (nat_cond (rfl) (nat_bind fun _ => nat_cond (rfl) (nat_bind fun _ => nat_cond (rfl) (rfl))))))
abbrev as_laws_eqConstruction : List AX := [.val true (.pair .str (.pair (.int .i64) (.pair (.slice .str) (.pair (.int .i64) (.pair (.pair (.pair (.int .i64) (.pair (.int .i64) (.int .i64))) (.pair (.int .i64) (.pair (.int .i64) (.int .i64)))) (.pair (.int .i64) (.pair (.int .i64) (.pair (.int .i64) (.int .i64))))))))), .val true (.pair .str (.pair (.int .i64) (.pair (.slice .str) (.pair (.int .i64) (.pair (.pair (.pair (.int .i64) (.pair (.int .i64) (.int .i64))) (.pair (.int .i64) (.pair (.int .i64) (.int .i64)))) (.pair (.int .i64) (.pair (.int .i64) (.pair (.int .i64) (.int .i64)))))))))]
abbrev en_laws_eqConstruction : Bool → AV × List CV := fun b => (.one ⟨false, [(.v (.bool b))]⟩, [])
noncomputable abbrev k_laws_eqConstruction : Contract := .fx as_laws_eqConstruction (Bool) (fun z => g_laws_eqConstruction z.1 z.2.1) en_laws_eqConstruction
theorem r_laws_eqConstruction (z : argsX as_laws_eqConstruction) : runF (tab C0 T_laws_eqConstruction) noHints 1 Try.f23 (lentOf as_laws_eqConstruction) (xBoxes as_laws_eqConstruction z) (xVals as_laws_eqConstruction 0 z) K2 = t_laws_eqConstruction (fun b => some (en_laws_eqConstruction b)) z.1 z.2.1 := by kernel_rfl
theorem so_laws_eqConstruction : Sound C0 23 k_laws_eqConstruction :=
  Sound.fx a_laws_eqConstruction mixed Try.func23 (by kernel_rfl) (by kernel_rfl) noHints 1 noHints_ok (fun z => (r_laws_eqConstruction z).trans (nat_laws_eqConstruction _ z.1 z.2.1))

/-! ### F5 laws.FnExactSameConstruction -/
noncomputable def T_laws_FnExactSameConstruction : List (FuncId × Contract) := [(19, k_laws_szConstruction), (21, k_laws_toConstruction), (20, k_spec_SameConstruction), (22, k_impl_SameConstruction), (23, k_laws_eqConstruction)]
theorem a_laws_FnExactSameConstruction : AllSound C0 T_laws_FnExactSameConstruction := .cons so_laws_szConstruction (.cons so_laws_toConstruction (.cons so_spec_SameConstruction (.cons so_impl_SameConstruction (.cons so_laws_eqConstruction (.nil)))))
noncomputable def t_laws_FnExactSameConstruction {R : Type} (kx : Bool → Option R) (a0 : (ByteArray × (Int × ((List ByteArray) × (Int × (((Int × (Int × Int)) × (Int × (Int × Int))) × (Int × (Int × (Int × Int))))))))) (a1 : (ByteArray × (Int × ((List ByteArray) × (Int × (((Int × (Int × Int)) × (Int × (Int × Int))) × (Int × (Int × (Int × Int))))))))) : Option R :=
  Option.bind (g_laws_szConstruction a0 (1048576 : Int)) fun y16 =>
  cond (decide (y16 < (0 : Int)))
  (kx Bool.true)
  (Option.bind (g_laws_szConstruction a1 y16) fun y17 =>
   cond (decide (y17 < (0 : Int)))
   (kx Bool.true)
   (Option.bind (g_laws_toConstruction a0) fun y36 =>
    Option.bind (g_laws_toConstruction a1) fun y37 =>
    Option.bind (g_spec_SameConstruction y36 y37) fun y74 =>
    Option.bind (g_laws_toConstruction a0) fun y75 =>
    Option.bind (g_laws_toConstruction a1) fun y76 =>
    Option.bind (g_impl_SameConstruction y75 y76) fun y91 =>
    cond (!(y91 == y74))
    (kx Bool.false)
    (Option.bind (g_laws_toConstruction a0) fun y92 =>
     Option.bind (g_laws_eqConstruction y75 y92) fun y117 =>
     cond (!y117)
     (kx Bool.false)
     (Option.bind (g_laws_toConstruction a1) fun y118 =>
      Option.bind (g_laws_eqConstruction y76 y118) fun y119 =>
      cond (!y119)
      (kx Bool.false)
      (kx Bool.true)))))
noncomputable def g_laws_FnExactSameConstruction (a0 : (ByteArray × (Int × ((List ByteArray) × (Int × (((Int × (Int × Int)) × (Int × (Int × Int))) × (Int × (Int × (Int × Int))))))))) (a1 : (ByteArray × (Int × ((List ByteArray) × (Int × (((Int × (Int × Int)) × (Int × (Int × Int))) × (Int × (Int × (Int × Int))))))))) : Option (Bool) := t_laws_FnExactSameConstruction some a0 a1
theorem nat_laws_FnExactSameConstruction {R : Type} (kx : Bool → Option R) (a0 : (ByteArray × (Int × ((List ByteArray) × (Int × (((Int × (Int × Int)) × (Int × (Int × Int))) × (Int × (Int × (Int × Int))))))))) (a1 : (ByteArray × (Int × ((List ByteArray) × (Int × (((Int × (Int × Int)) × (Int × (Int × Int))) × (Int × (Int × (Int × Int))))))))) : t_laws_FnExactSameConstruction kx a0 a1 = (g_laws_FnExactSameConstruction a0 a1).bind kx := by
  unfold g_laws_FnExactSameConstruction t_laws_FnExactSameConstruction
  exact nat_bind fun _ => nat_cond (rfl) (nat_bind fun _ => nat_cond (rfl) (nat_bind fun _ => nat_bind fun _ => nat_bind fun _ => nat_bind fun _ => nat_bind fun _ => nat_bind fun _ => nat_cond (rfl) (nat_bind fun _ => nat_bind fun _ => nat_cond (rfl) (nat_bind fun _ => nat_bind fun _ => nat_cond (rfl) (rfl)))))
abbrev as_laws_FnExactSameConstruction : List AX := [.val true (.pair .str (.pair (.int .i64) (.pair (.slice .str) (.pair (.int .i64) (.pair (.pair (.pair (.int .i64) (.pair (.int .i64) (.int .i64))) (.pair (.int .i64) (.pair (.int .i64) (.int .i64)))) (.pair (.int .i64) (.pair (.int .i64) (.pair (.int .i64) (.int .i64))))))))), .val true (.pair .str (.pair (.int .i64) (.pair (.slice .str) (.pair (.int .i64) (.pair (.pair (.pair (.int .i64) (.pair (.int .i64) (.int .i64))) (.pair (.int .i64) (.pair (.int .i64) (.int .i64)))) (.pair (.int .i64) (.pair (.int .i64) (.pair (.int .i64) (.int .i64)))))))))]
abbrev en_laws_FnExactSameConstruction : Bool → AV × List CV := fun b => (.one ⟨false, [(.v (.bool b))]⟩, [])
noncomputable abbrev k_laws_FnExactSameConstruction : Contract := .fx as_laws_FnExactSameConstruction (Bool) (fun z => g_laws_FnExactSameConstruction z.1 z.2.1) en_laws_FnExactSameConstruction
theorem r_laws_FnExactSameConstruction (z : argsX as_laws_FnExactSameConstruction) : runF (tab C0 T_laws_FnExactSameConstruction) noHints 1 Try.f5 (lentOf as_laws_FnExactSameConstruction) (xBoxes as_laws_FnExactSameConstruction z) (xVals as_laws_FnExactSameConstruction 0 z) K2 = t_laws_FnExactSameConstruction (fun b => some (en_laws_FnExactSameConstruction b)) z.1 z.2.1 := by kernel_rfl
theorem so_laws_FnExactSameConstruction : Sound C0 5 k_laws_FnExactSameConstruction :=
  Sound.fx a_laws_FnExactSameConstruction mixed Try.func5 (by kernel_rfl) (by kernel_rfl) noHints 1 noHints_ok (fun z => (r_laws_FnExactSameConstruction z).trans (nat_laws_FnExactSameConstruction _ z.1 z.2.1))

end Go.Proofs.Ytnpejkbnepncfaa
