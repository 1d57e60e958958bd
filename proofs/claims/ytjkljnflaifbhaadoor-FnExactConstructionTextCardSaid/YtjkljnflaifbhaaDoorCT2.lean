/- What the functions that ConstructionText reaches compute, printed. No conditions. -/
import Derived.Test.YtjkljnflaifbhaaDoorW1J
namespace Go.Proofs.YtjkljnflaifbhaaDoor
open Go.Vai
set_option maxRecDepth 100000

/-! ### F42 laws.szStringS -/
noncomputable def T_laws_szStringS : List (FuncId × Contract) := []
theorem a_laws_szStringS : AllSound C0 T_laws_szStringS := .nil
abbrev s_laws_szStringS_6 : LS := ⟨[(false, [(.sl .str)]), (false, [(.int .i64)]), (false, [(.int .i64)])], [], []⟩
abbrev e_laws_szStringS_6_0 : LS := ⟨[(false, [(.int .i64)]), (false, [(.int .i64)])], [], []⟩
abbrev d_laws_szStringS_6_0 (v0 : Int) (v1 : Int) : e_laws_szStringS_6_0.T := (((v0, ()), (v1, ()), ()), (), ())
abbrev e_laws_szStringS_6_1 : LS := ⟨[(false, [(.int .i64)]), (false, [.undef])], [], []⟩
abbrev d_laws_szStringS_6_1 (v0 : Int) : e_laws_szStringS_6_1.T := (((v0, ()), ((), ()), ()), (), ())
abbrev x_laws_szStringS_6 : List (Ex × LS) := [(.ret, e_laws_szStringS_6_0), (.exit 0, e_laws_szStringS_6_1)]
abbrev m_laws_szStringS_6 (x0 : List ByteArray) (x1 : Int) (x5 : Int) : s_laws_szStringS_6.T := (((x0, ()), (x1, ()), (x5, ()), ()), (), ())
noncomputable def u_laws_szStringS_6 {R : Type} (nx : s_laws_szStringS_6.T → Option R) (hx : exH R x_laws_szStringS_6) (x0 : List ByteArray) (x1 : Int) (x5 : Int) : Option R :=
  cond (decide (x5 < (((List.length x0) : Nat) : Int)))
  (Option.bind (idx x0 x5) fun y8 =>
   cond (decide ((IntKind.wrap IntKind.i64 (x1 - (((ByteArray.size y8) : Nat) : Int))) < (0 : Int)))
   (hx.1 (d_laws_szStringS_6_0 (IntKind.wrap IntKind.i64 (x1 - (((ByteArray.size y8) : Nat) : Int))) (-(1 : Int))))
   (nx (m_laws_szStringS_6 x0 (IntKind.wrap IntKind.i64 (x1 - (((ByteArray.size y8) : Nat) : Int))) (IntKind.wrap IntKind.i64 (x5 + (1 : Int))))))
  (hx.2.1 (d_laws_szStringS_6_1 x1))
noncomputable def t_laws_szStringS_6 {R : Type} (nx : s_laws_szStringS_6.T → Option R) (hx : exH R x_laws_szStringS_6) (z : s_laws_szStringS_6.T) : Option R := u_laws_szStringS_6 nx hx z.1.1.1 z.1.2.1.1 z.1.2.2.1.1
theorem nat_laws_szStringS_6 : Natural @t_laws_szStringS_6 := fun R nx hx z => by
  show u_laws_szStringS_6 nx hx z.1.1.1 z.1.2.1.1 z.1.2.2.1.1 = (u_laws_szStringS_6 (fun y => some (.inl y)) (hIn x_laws_szStringS_6 fun x => some (.inr x)) z.1.1.1 z.1.2.1.1 z.1.2.2.1.1).bind (goOn nx hx)
  unfold u_laws_szStringS_6
  exact nat_cond (nat_bind fun _ => nat_cond (rfl) (rfl)) (rfl)
noncomputable def w_laws_szStringS_6 : s_laws_szStringS_6.T → Option (exT x_laws_szStringS_6) := wOf @t_laws_szStringS_6
theorem wq_laws_szStringS_6 (x0 : List ByteArray) (x1 : Int) (x5 : Int) : w_laws_szStringS_6 (m_laws_szStringS_6 x0 x1 x5) = u_laws_szStringS_6 w_laws_szStringS_6 (hIn x_laws_szStringS_6 some) x0 x1 x5 := wOf_eq nat_laws_szStringS_6 _
def lh_laws_szStringS_6 : LoopHint := ⟨[0, 1, 5], [], [1, 4], []⟩
noncomputable def h_laws_szStringS : Hints Rv := ⟨fun k => match k with | 6 => lh_laws_szStringS_6 | _ => ⟨[], [], [], []⟩, fun k => match k with | 6 => some (loopX s_laws_szStringS_6 x_laws_szStringS_6 w_laws_szStringS_6) | _ => none⟩
theorem st_laws_szStringS_6 (n : Nat) (z : s_laws_szStringS_6.T) (k : Ex → Live → Option Rv) : loopN ⟨28, 28⟩ lh_laws_szStringS_6 (den (tab C0 T_laws_szStringS) ⟨28, 28⟩ h_laws_szStringS 1 (loopOf Tryd.f42 5)) (n + 1) (s_laws_szStringS_6.enc z) k =
    t_laws_szStringS_6 (fun y => loopN ⟨28, 28⟩ lh_laws_szStringS_6 (den (tab C0 T_laws_szStringS) ⟨28, 28⟩ h_laws_szStringS 1 (loopOf Tryd.f42 5)) n (s_laws_szStringS_6.enc y) k) (hK k x_laws_szStringS_6) z := by kernel_rfl
theorem hs_laws_szStringS : HintsOk (tab C0 T_laws_szStringS) ⟨28, 28⟩ h_laws_szStringS 1 (loops (codeOf Tryd.f42)) := by
  have hl : loops (codeOf Tryd.f42) = [loopOf Tryd.f42 5] := by kernel_rfl
  rw [hl]
  exact HintsOk.cons (n := 6) (lh := lh_laws_szStringS_6) (S := loopX s_laws_szStringS_6 x_laws_szStringS_6 w_laws_szStringS_6) (by kernel_rfl) rfl rfl (loopX_ok nat_laws_szStringS_6 st_laws_szStringS_6)
    (HintsOk.nil)
noncomputable def t_laws_szStringS {R : Type} (kx : Int → Option R) (a0 : (List ByteArray)) (a1 : Int) : Option R :=
  cond (decide ((IntKind.wrap IntKind.i64 (a1 - (((List.length a0) : Nat) : Int))) < (0 : Int)))
  (kx (-(1 : Int)))
  (Option.bind (w_laws_szStringS_6 (m_laws_szStringS_6 a0 (IntKind.wrap IntKind.i64 (a1 - (((List.length a0) : Nat) : Int))) (0 : Int))) (exC x_laws_szStringS_6
   (fun e9 =>
    kx (e9.1.2.1.1 : Int), fun e12 =>
    kx (e12.1.1.1 : Int), ())))
noncomputable def g_laws_szStringS (a0 : (List ByteArray)) (a1 : Int) : Option (Int) := t_laws_szStringS some a0 a1
theorem nat_laws_szStringS {R : Type} (kx : Int → Option R) (a0 : (List ByteArray)) (a1 : Int) : t_laws_szStringS kx a0 a1 = (g_laws_szStringS a0 a1).bind kx := by
  unfold g_laws_szStringS t_laws_szStringS
  exact nat_cond (rfl) (nat_exC ⟨fun _ => rfl, fun _ => rfl, trivial⟩)
abbrev as_laws_szStringS : List AX := [.val false (.slice .str), .val false (.int .i64)]
abbrev en_laws_szStringS : Int → AV × List CV := fun b => (.one ⟨false, [(.v (.int .i64 b))]⟩, [])
noncomputable abbrev k_laws_szStringS : Contract := .fx as_laws_szStringS (Int) (fun z => g_laws_szStringS z.1 z.2.1) en_laws_szStringS
theorem r_laws_szStringS (z : argsX as_laws_szStringS) : runF (tab C0 T_laws_szStringS) h_laws_szStringS 1 Tryd.f42 (lentOf as_laws_szStringS) (xBoxes as_laws_szStringS z) (xVals as_laws_szStringS 0 z) K2 = t_laws_szStringS (fun b => some (en_laws_szStringS b)) z.1 z.2.1 := by kernel_rfl
theorem so_laws_szStringS : Sound C0 42 k_laws_szStringS :=
  Sound.fx a_laws_szStringS mixed Tryd.func42 (by kernel_rfl) (by kernel_rfl) h_laws_szStringS 1 hs_laws_szStringS (fun z => (r_laws_szStringS z).trans (nat_laws_szStringS _ z.1 z.2.1))

/-! ### F13 laws.szConstruction -/
noncomputable def T_laws_szConstruction : List (FuncId × Contract) := [(42, k_laws_szStringS)]
theorem a_laws_szConstruction : AllSound C0 T_laws_szConstruction := .cons so_laws_szStringS (.nil)
noncomputable def t_laws_szConstruction {R : Type} (kx : Int → Option R) (a0 : (ByteArray × (Int × ((List ByteArray) × (Int × (((Int × (Int × Int)) × (Int × (Int × Int))) × (Int × (Int × (Int × Int))))))))) (a1 : Int) : Option R :=
  cond (decide ((IntKind.wrap IntKind.i64 (a1 - (((ByteArray.size a0.1) : Nat) : Int))) < (0 : Int)))
  (kx (-(1 : Int)))
  (Option.bind (g_laws_szStringS a0.2.2.1 (IntKind.wrap IntKind.i64 (a1 - (((ByteArray.size a0.1) : Nat) : Int)))) fun y14 =>
   cond (decide (y14 < (0 : Int)))
   (kx (-(1 : Int)))
   (kx y14))
noncomputable def g_laws_szConstruction (a0 : (ByteArray × (Int × ((List ByteArray) × (Int × (((Int × (Int × Int)) × (Int × (Int × Int))) × (Int × (Int × (Int × Int))))))))) (a1 : Int) : Option (Int) := t_laws_szConstruction some a0 a1
theorem nat_laws_szConstruction {R : Type} (kx : Int → Option R) (a0 : (ByteArray × (Int × ((List ByteArray) × (Int × (((Int × (Int × Int)) × (Int × (Int × Int))) × (Int × (Int × (Int × Int))))))))) (a1 : Int) : t_laws_szConstruction kx a0 a1 = (g_laws_szConstruction a0 a1).bind kx := by
  unfold g_laws_szConstruction t_laws_szConstruction
  exact nat_cond (rfl) (nat_bind fun _ => nat_cond (rfl) (rfl))
abbrev as_laws_szConstruction : List AX := [.val true (.pair .str (.pair (.int .i64) (.pair (.slice .str) (.pair (.int .i64) (.pair (.pair (.pair (.int .i64) (.pair (.int .i64) (.int .i64))) (.pair (.int .i64) (.pair (.int .i64) (.int .i64)))) (.pair (.int .i64) (.pair (.int .i64) (.pair (.int .i64) (.int .i64))))))))), .val false (.int .i64)]
abbrev en_laws_szConstruction : Int → AV × List CV := fun b => (.one ⟨false, [(.v (.int .i64 b))]⟩, [])
noncomputable abbrev k_laws_szConstruction : Contract := .fx as_laws_szConstruction (Int) (fun z => g_laws_szConstruction z.1 z.2.1) en_laws_szConstruction
theorem r_laws_szConstruction (z : argsX as_laws_szConstruction) : runF (tab C0 T_laws_szConstruction) noHints 1 Tryd.f13 (lentOf as_laws_szConstruction) (xBoxes as_laws_szConstruction z) (xVals as_laws_szConstruction 0 z) K2 = t_laws_szConstruction (fun b => some (en_laws_szConstruction b)) z.1 z.2.1 := by kernel_rfl
theorem so_laws_szConstruction : Sound C0 13 k_laws_szConstruction :=
  Sound.fx a_laws_szConstruction mixed Tryd.func13 (by kernel_rfl) (by kernel_rfl) noHints 1 noHints_ok (fun z => (r_laws_szConstruction z).trans (nat_laws_szConstruction _ z.1 z.2.1))

/-! ### F44 laws.toStringS -/
noncomputable def T_laws_toStringS : List (FuncId × Contract) := []
theorem a_laws_toStringS : AllSound C0 T_laws_toStringS := .nil
abbrev s_laws_toStringS_4 : LS := ⟨[(false, [(.sl .str)]), (false, [(.own .str)]), (false, [(.int .i64)])], [], []⟩
abbrev e_laws_toStringS_4_0 : LS := ⟨[(false, [(.own .str)])], [], []⟩
abbrev d_laws_toStringS_4_0 (v0 : List ByteArray) : e_laws_toStringS_4_0.T := (((v0, ()), ()), (), ())
abbrev x_laws_toStringS_4 : List (Ex × LS) := [(.exit 0, e_laws_toStringS_4_0)]
abbrev m_laws_toStringS_4 (x0 : List ByteArray) (x3 : List ByteArray) (x4 : Int) : s_laws_toStringS_4.T := (((x0, ()), (x3, ()), (x4, ()), ()), (), ())
noncomputable def u_laws_toStringS_4 {R : Type} (nx : s_laws_toStringS_4.T → Option R) (hx : exH R x_laws_toStringS_4) (x0 : List ByteArray) (x3 : List ByteArray) (x4 : Int) : Option R :=
  cond (decide (x4 < (((List.length x0) : Nat) : Int)))
  (Option.bind (idx x0 x4) fun y21 =>
   Option.bind (idx x3 x4) fun _ =>
   nx (m_laws_toStringS_4 x0 (List.set x3 (0 + (Int.toNat x4)) y21) (IntKind.wrap IntKind.i64 (x4 + (1 : Int)))))
  (hx.1 (d_laws_toStringS_4_0 x3))
noncomputable def t_laws_toStringS_4 {R : Type} (nx : s_laws_toStringS_4.T → Option R) (hx : exH R x_laws_toStringS_4) (z : s_laws_toStringS_4.T) : Option R := u_laws_toStringS_4 nx hx z.1.1.1 z.1.2.1.1 z.1.2.2.1.1
theorem nat_laws_toStringS_4 : Natural @t_laws_toStringS_4 := fun R nx hx z => by
  show u_laws_toStringS_4 nx hx z.1.1.1 z.1.2.1.1 z.1.2.2.1.1 = (u_laws_toStringS_4 (fun y => some (.inl y)) (hIn x_laws_toStringS_4 fun x => some (.inr x)) z.1.1.1 z.1.2.1.1 z.1.2.2.1.1).bind (goOn nx hx)
  unfold u_laws_toStringS_4
  exact nat_cond (nat_bind fun _ => nat_bind fun _ => rfl) (rfl)
noncomputable def w_laws_toStringS_4 : s_laws_toStringS_4.T → Option (exT x_laws_toStringS_4) := wOf @t_laws_toStringS_4
theorem wq_laws_toStringS_4 (x0 : List ByteArray) (x3 : List ByteArray) (x4 : Int) : w_laws_toStringS_4 (m_laws_toStringS_4 x0 x3 x4) = u_laws_toStringS_4 w_laws_toStringS_4 (hIn x_laws_toStringS_4 some) x0 x3 x4 := wOf_eq nat_laws_toStringS_4 _
def lh_laws_toStringS_4 : LoopHint := ⟨[0, 3, 4], [], [3], []⟩
noncomputable def h_laws_toStringS : Hints Rv := ⟨fun k => match k with | 4 => lh_laws_toStringS_4 | _ => ⟨[], [], [], []⟩, fun k => match k with | 4 => some (loopX s_laws_toStringS_4 x_laws_toStringS_4 w_laws_toStringS_4) | _ => none⟩
theorem st_laws_toStringS_4 (n : Nat) (z : s_laws_toStringS_4.T) (k : Ex → Live → Option Rv) : loopN ⟨22, 22⟩ lh_laws_toStringS_4 (den (tab C0 T_laws_toStringS) ⟨22, 22⟩ h_laws_toStringS 1 (loopOf Tryd.f44 3)) (n + 1) (s_laws_toStringS_4.enc z) k =
    t_laws_toStringS_4 (fun y => loopN ⟨22, 22⟩ lh_laws_toStringS_4 (den (tab C0 T_laws_toStringS) ⟨22, 22⟩ h_laws_toStringS 1 (loopOf Tryd.f44 3)) n (s_laws_toStringS_4.enc y) k) (hK k x_laws_toStringS_4) z := by kernel_rfl
theorem hs_laws_toStringS : HintsOk (tab C0 T_laws_toStringS) ⟨22, 22⟩ h_laws_toStringS 1 (loops (codeOf Tryd.f44)) := by
  have hl : loops (codeOf Tryd.f44) = [loopOf Tryd.f44 3] := by kernel_rfl
  rw [hl]
  exact HintsOk.cons (n := 4) (lh := lh_laws_toStringS_4) (S := loopX s_laws_toStringS_4 x_laws_toStringS_4 w_laws_toStringS_4) (by kernel_rfl) rfl rfl (loopX_ok nat_laws_toStringS_4 st_laws_toStringS_4)
    (HintsOk.nil)
noncomputable def t_laws_toStringS {R : Type} (kx : (List ByteArray) → Option R) (a0 : (List ByteArray)) : Option R :=
  cond (decide ((((List.length a0) : Nat) : Int) ≤ (((List.length a0) : Nat) : Int)))
  (cond (decide (((((List.length a0) : Nat) : Int) * ((16 : Nat) : Int)) ≤ (70368744177664 : Int)))
   (cond (decide ((((List.length a0) : Nat) : Int) ≤ (70368744177664 : Int)))
    (Option.bind (w_laws_toStringS_4 (m_laws_toStringS_4 a0 (List.replicate (Int.toNat (((List.length a0) : Nat) : Int)) (ByteArray.mk (Array.mk []))) (0 : Int))) (exC x_laws_toStringS_4
     (fun e23 =>
      kx (e23.1.1.1 : List ByteArray), ())))
    (none))
   (none))
  (none)
noncomputable def g_laws_toStringS (a0 : (List ByteArray)) : Option ((List ByteArray)) := t_laws_toStringS some a0
theorem nat_laws_toStringS {R : Type} (kx : (List ByteArray) → Option R) (a0 : (List ByteArray)) : t_laws_toStringS kx a0 = (g_laws_toStringS a0).bind kx := by
  unfold g_laws_toStringS t_laws_toStringS
  exact nat_cond (nat_cond (nat_cond (nat_exC ⟨fun _ => rfl, trivial⟩) (rfl)) (rfl)) (rfl)
abbrev as_laws_toStringS : List AX := [.val false (.slice .str)]
abbrev en_laws_toStringS : (List ByteArray) → AV × List CV := fun b => (.one ⟨false, [(.own .str b)]⟩, [])
noncomputable abbrev k_laws_toStringS : Contract := .fx as_laws_toStringS ((List ByteArray)) (fun z => g_laws_toStringS z.1) en_laws_toStringS
theorem r_laws_toStringS (z : argsX as_laws_toStringS) : runF (tab C0 T_laws_toStringS) h_laws_toStringS 1 Tryd.f44 (lentOf as_laws_toStringS) (xBoxes as_laws_toStringS z) (xVals as_laws_toStringS 0 z) K2 = t_laws_toStringS (fun b => some (en_laws_toStringS b)) z.1 := by kernel_rfl
theorem so_laws_toStringS : Sound C0 44 k_laws_toStringS :=
  Sound.fx a_laws_toStringS mixed Tryd.func44 (by kernel_rfl) (by kernel_rfl) h_laws_toStringS 1 hs_laws_toStringS (fun z => (r_laws_toStringS z).trans (nat_laws_toStringS _ z.1))

/-! ### F88 laws.toNum -/
noncomputable def T_laws_toNum : List (FuncId × Contract) := []
theorem a_laws_toNum : AllSound C0 T_laws_toNum := .nil
noncomputable def t_laws_toNum {R : Type} (kx : (Int × (Int × Int)) → Option R) (a0 : (Int × (Int × Int))) : Option R :=
  kx a0
noncomputable def g_laws_toNum (a0 : (Int × (Int × Int))) : Option ((Int × (Int × Int))) := t_laws_toNum some a0
theorem nat_laws_toNum {R : Type} (kx : (Int × (Int × Int)) → Option R) (a0 : (Int × (Int × Int))) : t_laws_toNum kx a0 = (g_laws_toNum a0).bind kx := by
  unfold g_laws_toNum t_laws_toNum
  exact rfl
abbrev as_laws_toNum : List AX := [.val true (.pair (.int .i64) (.pair (.int .i64) (.int .i64)))]
abbrev en_laws_toNum : (Int × (Int × Int)) → AV × List CV := fun b => (.one ⟨true, [(.v (.int .i64 b.1)), (.v (.int .i64 b.2.1)), (.v (.int .i64 b.2.2))]⟩, [])
noncomputable abbrev k_laws_toNum : Contract := .fx as_laws_toNum ((Int × (Int × Int))) (fun z => g_laws_toNum z.1) en_laws_toNum
theorem r_laws_toNum (z : argsX as_laws_toNum) : runF (tab C0 T_laws_toNum) noHints 1 Tryd.f88 (lentOf as_laws_toNum) (xBoxes as_laws_toNum z) (xVals as_laws_toNum 0 z) K2 = t_laws_toNum (fun b => some (en_laws_toNum b)) z.1 := by kernel_rfl
theorem so_laws_toNum : Sound C0 88 k_laws_toNum :=
  Sound.fx a_laws_toNum mixed Tryd.func88 (by kernel_rfl) (by kernel_rfl) noHints 1 noHints_ok (fun z => (r_laws_toNum z).trans (nat_laws_toNum _ z.1))

/-! ### F45 laws.toPoint -/
noncomputable def T_laws_toPoint : List (FuncId × Contract) := [(88, k_laws_toNum)]
theorem a_laws_toPoint : AllSound C0 T_laws_toPoint := .cons so_laws_toNum (.nil)
noncomputable def t_laws_toPoint {R : Type} (kx : ((Int × (Int × Int)) × (Int × (Int × Int))) → Option R) (a0 : ((Int × (Int × Int)) × (Int × (Int × Int)))) : Option R :=
  Option.bind (g_laws_toNum a0.1) fun y28 =>
  Option.bind (g_laws_toNum a0.2) fun y29 =>
  kx (y28, y29)
noncomputable def g_laws_toPoint (a0 : ((Int × (Int × Int)) × (Int × (Int × Int)))) : Option (((Int × (Int × Int)) × (Int × (Int × Int)))) := t_laws_toPoint some a0
theorem nat_laws_toPoint {R : Type} (kx : ((Int × (Int × Int)) × (Int × (Int × Int))) → Option R) (a0 : ((Int × (Int × Int)) × (Int × (Int × Int)))) : t_laws_toPoint kx a0 = (g_laws_toPoint a0).bind kx := by
  unfold g_laws_toPoint t_laws_toPoint
  exact nat_bind fun _ => nat_bind fun _ => rfl
abbrev as_laws_toPoint : List AX := [.val true (.pair (.pair (.int .i64) (.pair (.int .i64) (.int .i64))) (.pair (.int .i64) (.pair (.int .i64) (.int .i64))))]
abbrev en_laws_toPoint : ((Int × (Int × Int)) × (Int × (Int × Int))) → AV × List CV := fun b => (.one ⟨true, [(.v (.int .i64 b.1.1)), (.v (.int .i64 b.1.2.1)), (.v (.int .i64 b.1.2.2)), (.v (.int .i64 b.2.1)), (.v (.int .i64 b.2.2.1)), (.v (.int .i64 b.2.2.2))]⟩, [])
noncomputable abbrev k_laws_toPoint : Contract := .fx as_laws_toPoint (((Int × (Int × Int)) × (Int × (Int × Int)))) (fun z => g_laws_toPoint z.1) en_laws_toPoint
theorem r_laws_toPoint (z : argsX as_laws_toPoint) : runF (tab C0 T_laws_toPoint) noHints 1 Tryd.f45 (lentOf as_laws_toPoint) (xBoxes as_laws_toPoint z) (xVals as_laws_toPoint 0 z) K2 = t_laws_toPoint (fun b => some (en_laws_toPoint b)) z.1 := by kernel_rfl
theorem so_laws_toPoint : Sound C0 45 k_laws_toPoint :=
  Sound.fx a_laws_toPoint mixed Tryd.func45 (by kernel_rfl) (by kernel_rfl) noHints 1 noHints_ok (fun z => (r_laws_toPoint z).trans (nat_laws_toPoint _ z.1))

/-! ### F46 laws.toLine -/
noncomputable def T_laws_toLine : List (FuncId × Contract) := [(88, k_laws_toNum)]
theorem a_laws_toLine : AllSound C0 T_laws_toLine := .cons so_laws_toNum (.nil)
noncomputable def t_laws_toLine {R : Type} (kx : (Int × (Int × (Int × Int))) → Option R) (a0 : (Int × (Int × (Int × Int)))) : Option R :=
  Option.bind (g_laws_toNum a0.2) fun y32 =>
  kx (a0.1, y32)
noncomputable def g_laws_toLine (a0 : (Int × (Int × (Int × Int)))) : Option ((Int × (Int × (Int × Int)))) := t_laws_toLine some a0
theorem nat_laws_toLine {R : Type} (kx : (Int × (Int × (Int × Int))) → Option R) (a0 : (Int × (Int × (Int × Int)))) : t_laws_toLine kx a0 = (g_laws_toLine a0).bind kx := by
  unfold g_laws_toLine t_laws_toLine
  exact nat_bind fun _ => rfl
abbrev as_laws_toLine : List AX := [.val true (.pair (.int .i64) (.pair (.int .i64) (.pair (.int .i64) (.int .i64))))]
abbrev en_laws_toLine : (Int × (Int × (Int × Int))) → AV × List CV := fun b => (.one ⟨true, [(.v (.int .i64 b.1)), (.v (.int .i64 b.2.1)), (.v (.int .i64 b.2.2.1)), (.v (.int .i64 b.2.2.2))]⟩, [])
noncomputable abbrev k_laws_toLine : Contract := .fx as_laws_toLine ((Int × (Int × (Int × Int)))) (fun z => g_laws_toLine z.1) en_laws_toLine
theorem r_laws_toLine (z : argsX as_laws_toLine) : runF (tab C0 T_laws_toLine) noHints 1 Tryd.f46 (lentOf as_laws_toLine) (xBoxes as_laws_toLine z) (xVals as_laws_toLine 0 z) K2 = t_laws_toLine (fun b => some (en_laws_toLine b)) z.1 := by kernel_rfl
theorem so_laws_toLine : Sound C0 46 k_laws_toLine :=
  Sound.fx a_laws_toLine mixed Tryd.func46 (by kernel_rfl) (by kernel_rfl) noHints 1 noHints_ok (fun z => (r_laws_toLine z).trans (nat_laws_toLine _ z.1))

/-! ### F15 laws.toConstruction -/
noncomputable def T_laws_toConstruction : List (FuncId × Contract) := [(44, k_laws_toStringS), (45, k_laws_toPoint), (46, k_laws_toLine)]
theorem a_laws_toConstruction : AllSound C0 T_laws_toConstruction := .cons so_laws_toStringS (.cons so_laws_toPoint (.cons so_laws_toLine (.nil)))
noncomputable def t_laws_toConstruction {R : Type} (kx : (ByteArray × (Int × ((List ByteArray) × (Int × (((Int × (Int × Int)) × (Int × (Int × Int))) × (Int × (Int × (Int × Int)))))))) → Option R) (a0 : (ByteArray × (Int × ((List ByteArray) × (Int × (((Int × (Int × Int)) × (Int × (Int × Int))) × (Int × (Int × (Int × Int))))))))) : Option R :=
  Option.bind (g_laws_toStringS a0.2.2.1) fun y25 =>
  Option.bind (g_laws_toPoint a0.2.2.2.2.1) fun y30 =>
  Option.bind (g_laws_toLine a0.2.2.2.2.2) fun y33 =>
  kx (a0.1, (a0.2.1, (y25, (a0.2.2.2.1, (y30, y33)))))
noncomputable def g_laws_toConstruction (a0 : (ByteArray × (Int × ((List ByteArray) × (Int × (((Int × (Int × Int)) × (Int × (Int × Int))) × (Int × (Int × (Int × Int))))))))) : Option ((ByteArray × (Int × ((List ByteArray) × (Int × (((Int × (Int × Int)) × (Int × (Int × Int))) × (Int × (Int × (Int × Int))))))))) := t_laws_toConstruction some a0
theorem nat_laws_toConstruction {R : Type} (kx : (ByteArray × (Int × ((List ByteArray) × (Int × (((Int × (Int × Int)) × (Int × (Int × Int))) × (Int × (Int × (Int × Int)))))))) → Option R) (a0 : (ByteArray × (Int × ((List ByteArray) × (Int × (((Int × (Int × Int)) × (Int × (Int × Int))) × (Int × (Int × (Int × Int))))))))) : t_laws_toConstruction kx a0 = (g_laws_toConstruction a0).bind kx := by
  unfold g_laws_toConstruction t_laws_toConstruction
  exact nat_bind fun _ => nat_bind fun _ => nat_bind fun _ => rfl
abbrev as_laws_toConstruction : List AX := [.val true (.pair .str (.pair (.int .i64) (.pair (.slice .str) (.pair (.int .i64) (.pair (.pair (.pair (.int .i64) (.pair (.int .i64) (.int .i64))) (.pair (.int .i64) (.pair (.int .i64) (.int .i64)))) (.pair (.int .i64) (.pair (.int .i64) (.pair (.int .i64) (.int .i64)))))))))]
abbrev en_laws_toConstruction : (ByteArray × (Int × ((List ByteArray) × (Int × (((Int × (Int × Int)) × (Int × (Int × Int))) × (Int × (Int × (Int × Int)))))))) → AV × List CV := fun b => (.one ⟨true, [(.v (.string b.1)), (.v (.int .i64 b.2.1)), (.own .str b.2.2.1), (.v (.int .i64 b.2.2.2.1)), (.v (.int .i64 b.2.2.2.2.1.1.1)), (.v (.int .i64 b.2.2.2.2.1.1.2.1)), (.v (.int .i64 b.2.2.2.2.1.1.2.2)), (.v (.int .i64 b.2.2.2.2.1.2.1)), (.v (.int .i64 b.2.2.2.2.1.2.2.1)), (.v (.int .i64 b.2.2.2.2.1.2.2.2)), (.v (.int .i64 b.2.2.2.2.2.1)), (.v (.int .i64 b.2.2.2.2.2.2.1)), (.v (.int .i64 b.2.2.2.2.2.2.2.1)), (.v (.int .i64 b.2.2.2.2.2.2.2.2))]⟩, [])
noncomputable abbrev k_laws_toConstruction : Contract := .fx as_laws_toConstruction ((ByteArray × (Int × ((List ByteArray) × (Int × (((Int × (Int × Int)) × (Int × (Int × Int))) × (Int × (Int × (Int × Int))))))))) (fun z => g_laws_toConstruction z.1) en_laws_toConstruction
theorem r_laws_toConstruction (z : argsX as_laws_toConstruction) : runF (tab C0 T_laws_toConstruction) noHints 1 Tryd.f15 (lentOf as_laws_toConstruction) (xBoxes as_laws_toConstruction z) (xVals as_laws_toConstruction 0 z) K2 = t_laws_toConstruction (fun b => some (en_laws_toConstruction b)) z.1 := by kernel_rfl
theorem so_laws_toConstruction : Sound C0 15 k_laws_toConstruction :=
  Sound.fx a_laws_toConstruction mixed Tryd.func15 (by kernel_rfl) (by kernel_rfl) noHints 1 noHints_ok (fun z => (r_laws_toConstruction z).trans (nat_laws_toConstruction _ z.1))

/-! ### F130 spec.l01Letter -/
noncomputable def T_spec_l01Letter : List (FuncId × Contract) := []
theorem a_spec_l01Letter : AllSound C0 T_spec_l01Letter := .nil
noncomputable def t_spec_l01Letter {R : Type} (kx : Bool → Option R) (a0 : Int) : Option R :=
  cond (decide (a0 ≥ (65 : Int)))
  (cond (decide (a0 ≤ (90 : Int)))
   (kx Bool.true)
   (cond (decide (a0 ≥ (97 : Int)))
    (kx (decide (a0 ≤ (122 : Int))))
    (kx Bool.false)))
  (cond (decide (a0 ≥ (97 : Int)))
   (kx (decide (a0 ≤ (122 : Int))))
   (kx Bool.false))
noncomputable def g_spec_l01Letter (a0 : Int) : Option (Bool) := t_spec_l01Letter some a0
theorem nat_spec_l01Letter {R : Type} (kx : Bool → Option R) (a0 : Int) : t_spec_l01Letter kx a0 = (g_spec_l01Letter a0).bind kx := by
  unfold g_spec_l01Letter t_spec_l01Letter
  exact nat_cond (nat_cond (rfl) (nat_cond (rfl) (rfl))) (nat_cond (rfl) (rfl))
abbrev as_spec_l01Letter : List AX := [.val false (.int .u8)]
abbrev en_spec_l01Letter : Bool → AV × List CV := fun b => (.one ⟨false, [(.v (.bool b))]⟩, [])
noncomputable abbrev k_spec_l01Letter : Contract := .fx as_spec_l01Letter (Bool) (fun z => g_spec_l01Letter z.1) en_spec_l01Letter
theorem r_spec_l01Letter (z : argsX as_spec_l01Letter) : runF (tab C0 T_spec_l01Letter) noHints 1 Tryd.f130 (lentOf as_spec_l01Letter) (xBoxes as_spec_l01Letter z) (xVals as_spec_l01Letter 0 z) K2 = t_spec_l01Letter (fun b => some (en_spec_l01Letter b)) z.1 := by kernel_rfl
theorem so_spec_l01Letter : Sound C0 130 k_spec_l01Letter :=
  Sound.fx a_spec_l01Letter mixed Tryd.func130 (by kernel_rfl) (by kernel_rfl) noHints 1 noHints_ok (fun z => (r_spec_l01Letter z).trans (nat_spec_l01Letter _ z.1))

/-! ### F131 spec.l01Digit -/
noncomputable def T_spec_l01Digit : List (FuncId × Contract) := []
theorem a_spec_l01Digit : AllSound C0 T_spec_l01Digit := .nil
noncomputable def t_spec_l01Digit {R : Type} (kx : Bool → Option R) (a0 : Int) : Option R :=
  cond (decide (a0 ≥ (48 : Int)))
  (kx (decide (a0 ≤ (57 : Int))))
  (kx Bool.false)
noncomputable def g_spec_l01Digit (a0 : Int) : Option (Bool) := t_spec_l01Digit some a0
theorem nat_spec_l01Digit {R : Type} (kx : Bool → Option R) (a0 : Int) : t_spec_l01Digit kx a0 = (g_spec_l01Digit a0).bind kx := by
  unfold g_spec_l01Digit t_spec_l01Digit
  exact nat_cond (rfl) (rfl)
abbrev as_spec_l01Digit : List AX := [.val false (.int .u8)]
abbrev en_spec_l01Digit : Bool → AV × List CV := fun b => (.one ⟨false, [(.v (.bool b))]⟩, [])
noncomputable abbrev k_spec_l01Digit : Contract := .fx as_spec_l01Digit (Bool) (fun z => g_spec_l01Digit z.1) en_spec_l01Digit
theorem r_spec_l01Digit (z : argsX as_spec_l01Digit) : runF (tab C0 T_spec_l01Digit) noHints 1 Tryd.f131 (lentOf as_spec_l01Digit) (xBoxes as_spec_l01Digit z) (xVals as_spec_l01Digit 0 z) K2 = t_spec_l01Digit (fun b => some (en_spec_l01Digit b)) z.1 := by kernel_rfl
theorem so_spec_l01Digit : Sound C0 131 k_spec_l01Digit :=
  Sound.fx a_spec_l01Digit mixed Tryd.func131 (by kernel_rfl) (by kernel_rfl) noHints 1 noHints_ok (fun z => (r_spec_l01Digit z).trans (nat_spec_l01Digit _ z.1))

/-! ### F82 spec.IsName -/
noncomputable def T_spec_IsName : List (FuncId × Contract) := [(130, k_spec_l01Letter), (131, k_spec_l01Digit)]
theorem a_spec_IsName : AllSound C0 T_spec_IsName := .cons so_spec_l01Letter (.cons so_spec_l01Digit (.nil))
abbrev s_spec_IsName_5 : LS := ⟨[(false, [.str]), (false, [(.int .i64)])], [], []⟩
abbrev e_spec_IsName_5_0 : LS := ⟨[(false, [.bool])], [], []⟩
abbrev d_spec_IsName_5_0 (v0 : Bool) : e_spec_IsName_5_0.T := (((v0, ()), ()), (), ())
abbrev e_spec_IsName_5_1 : LS := ⟨[(false, [.undef])], [], []⟩
abbrev d_spec_IsName_5_1 : e_spec_IsName_5_1.T := ((((), ()), ()), (), ())
abbrev x_spec_IsName_5 : List (Ex × LS) := [(.ret, e_spec_IsName_5_0), (.exit 0, e_spec_IsName_5_1)]
abbrev m_spec_IsName_5 (x0 : ByteArray) (x3 : Int) : s_spec_IsName_5.T := (((x0, ()), (x3, ()), ()), (), ())
noncomputable def u_spec_IsName_5 {R : Type} (nx : s_spec_IsName_5.T → Option R) (hx : exH R x_spec_IsName_5) (x0 : ByteArray) (x3 : Int) : Option R :=
  cond (decide (x3 < (((ByteArray.size x0) : Nat) : Int)))
  (Option.bind (idxB x0 x3) fun y43 =>
   Option.bind (g_spec_l01Letter (((UInt8.toNat y43) : Nat) : Int)) fun y44 =>
   cond (!y44)
   (Option.bind (idxB x0 x3) fun y45 =>
    Option.bind (g_spec_l01Digit (((UInt8.toNat y45) : Nat) : Int)) fun y47 =>
    cond (!y47)
    (Option.bind (idxB x0 x3) fun y48 =>
     cond ((((UInt8.toNat y48) : Nat) : Int) != (95 : Int))
     (hx.1 (d_spec_IsName_5_0 Bool.false))
     (nx (m_spec_IsName_5 x0 (IntKind.wrap IntKind.i64 (x3 + (1 : Int))))))
    (nx (m_spec_IsName_5 x0 (IntKind.wrap IntKind.i64 (x3 + (1 : Int))))))
   (nx (m_spec_IsName_5 x0 (IntKind.wrap IntKind.i64 (x3 + (1 : Int))))))
  (hx.2.1 (d_spec_IsName_5_1))
noncomputable def t_spec_IsName_5 {R : Type} (nx : s_spec_IsName_5.T → Option R) (hx : exH R x_spec_IsName_5) (z : s_spec_IsName_5.T) : Option R := u_spec_IsName_5 nx hx z.1.1.1 z.1.2.1.1
theorem nat_spec_IsName_5 : Natural @t_spec_IsName_5 := fun R nx hx z => by
  show u_spec_IsName_5 nx hx z.1.1.1 z.1.2.1.1 = (u_spec_IsName_5 (fun y => some (.inl y)) (hIn x_spec_IsName_5 fun x => some (.inr x)) z.1.1.1 z.1.2.1.1).bind (goOn nx hx)
  unfold u_spec_IsName_5
  exact nat_cond (nat_bind fun _ => nat_bind fun _ => nat_cond (nat_bind fun _ => nat_bind fun _ => nat_cond (nat_bind fun _ => nat_cond (rfl) (rfl)) (rfl)) (rfl)) (rfl)
noncomputable def w_spec_IsName_5 : s_spec_IsName_5.T → Option (exT x_spec_IsName_5) := wOf @t_spec_IsName_5
theorem wq_spec_IsName_5 (x0 : ByteArray) (x3 : Int) : w_spec_IsName_5 (m_spec_IsName_5 x0 x3) = u_spec_IsName_5 w_spec_IsName_5 (hIn x_spec_IsName_5 some) x0 x3 := wOf_eq nat_spec_IsName_5 _
def lh_spec_IsName_5 : LoopHint := ⟨[0, 3], [], [2], []⟩
noncomputable def h_spec_IsName : Hints Rv := ⟨fun k => match k with | 5 => lh_spec_IsName_5 | _ => ⟨[], [], [], []⟩, fun k => match k with | 5 => some (loopX s_spec_IsName_5 x_spec_IsName_5 w_spec_IsName_5) | _ => none⟩
theorem st_spec_IsName_5 (n : Nat) (z : s_spec_IsName_5.T) (k : Ex → Live → Option Rv) : loopN ⟨41, 41⟩ lh_spec_IsName_5 (den (tab C0 T_spec_IsName) ⟨41, 41⟩ h_spec_IsName 1 (loopOf Tryd.f82 4)) (n + 1) (s_spec_IsName_5.enc z) k =
    t_spec_IsName_5 (fun y => loopN ⟨41, 41⟩ lh_spec_IsName_5 (den (tab C0 T_spec_IsName) ⟨41, 41⟩ h_spec_IsName 1 (loopOf Tryd.f82 4)) n (s_spec_IsName_5.enc y) k) (hK k x_spec_IsName_5) z := by kernel_rfl
theorem hs_spec_IsName : HintsOk (tab C0 T_spec_IsName) ⟨41, 41⟩ h_spec_IsName 1 (loops (codeOf Tryd.f82)) := by
  have hl : loops (codeOf Tryd.f82) = [loopOf Tryd.f82 4] := by kernel_rfl
  rw [hl]
  exact HintsOk.cons (n := 5) (lh := lh_spec_IsName_5) (S := loopX s_spec_IsName_5 x_spec_IsName_5 w_spec_IsName_5) (by kernel_rfl) rfl rfl (loopX_ok nat_spec_IsName_5 st_spec_IsName_5)
    (HintsOk.nil)
noncomputable def t_spec_IsName {R : Type} (kx : Bool → Option R) (a0 : ByteArray) : Option R :=
  cond ((ByteArray.toList a0) == (ByteArray.toList (ByteArray.mk (Array.mk []))))
  (kx Bool.false)
  (cond (decide ((((ByteArray.size a0) : Nat) : Int) > (12 : Int)))
   (kx Bool.false)
   (Option.bind (idxB a0 (0 : Int)) fun y38 =>
    Option.bind (g_spec_l01Letter (((UInt8.toNat y38) : Nat) : Int)) fun y40 =>
    cond (!y40)
    (kx Bool.false)
    (Option.bind (w_spec_IsName_5 (m_spec_IsName_5 a0 (0 : Int))) (exC x_spec_IsName_5
     (fun e49 =>
      kx (e49.1.1.1 : Bool), fun _ =>
      kx Bool.true, ())))))
noncomputable def g_spec_IsName (a0 : ByteArray) : Option (Bool) := t_spec_IsName some a0
theorem nat_spec_IsName {R : Type} (kx : Bool → Option R) (a0 : ByteArray) : t_spec_IsName kx a0 = (g_spec_IsName a0).bind kx := by
  unfold g_spec_IsName t_spec_IsName
  exact nat_cond (rfl) (nat_cond (rfl) (nat_bind fun _ => nat_bind fun _ => nat_cond (rfl) (nat_exC ⟨fun _ => rfl, fun _ => rfl, trivial⟩)))
abbrev as_spec_IsName : List AX := [.val false .str]
abbrev en_spec_IsName : Bool → AV × List CV := fun b => (.one ⟨false, [(.v (.bool b))]⟩, [])
noncomputable abbrev k_spec_IsName : Contract := .fx as_spec_IsName (Bool) (fun z => g_spec_IsName z.1) en_spec_IsName
theorem r_spec_IsName (z : argsX as_spec_IsName) : runF (tab C0 T_spec_IsName) h_spec_IsName 1 Tryd.f82 (lentOf as_spec_IsName) (xBoxes as_spec_IsName z) (xVals as_spec_IsName 0 z) K2 = t_spec_IsName (fun b => some (en_spec_IsName b)) z.1 := by kernel_rfl
theorem so_spec_IsName : Sound C0 82 k_spec_IsName :=
  Sound.fx a_spec_IsName mixed Tryd.func82 (by kernel_rfl) (by kernel_rfl) h_spec_IsName 1 hs_spec_IsName (fun z => (r_spec_IsName z).trans (nat_spec_IsName _ z.1))

/-! ### F83 spec.l00In -/
noncomputable def T_spec_l00In : List (FuncId × Contract) := []
theorem a_spec_l00In : AllSound C0 T_spec_l00In := .nil
noncomputable def t_spec_l00In {R : Type} (kx : Bool → Option R) (a0 : Int) (a1 : Int) (a2 : Int) : Option R :=
  cond (decide (a0 ≥ a1))
  (kx (decide (a0 ≤ a2)))
  (kx Bool.false)
noncomputable def g_spec_l00In (a0 : Int) (a1 : Int) (a2 : Int) : Option (Bool) := t_spec_l00In some a0 a1 a2
theorem nat_spec_l00In {R : Type} (kx : Bool → Option R) (a0 : Int) (a1 : Int) (a2 : Int) : t_spec_l00In kx a0 a1 a2 = (g_spec_l00In a0 a1 a2).bind kx := by
  unfold g_spec_l00In t_spec_l00In
  exact nat_cond (rfl) (rfl)
abbrev as_spec_l00In : List AX := [.val false (.int .i64), .val false (.int .i64), .val false (.int .i64)]
abbrev en_spec_l00In : Bool → AV × List CV := fun b => (.one ⟨false, [(.v (.bool b))]⟩, [])
noncomputable abbrev k_spec_l00In : Contract := .fx as_spec_l00In (Bool) (fun z => g_spec_l00In z.1 z.2.1 z.2.2.1) en_spec_l00In
theorem r_spec_l00In (z : argsX as_spec_l00In) : runF (tab C0 T_spec_l00In) noHints 1 Tryd.f83 (lentOf as_spec_l00In) (xBoxes as_spec_l00In z) (xVals as_spec_l00In 0 z) K2 = t_spec_l00In (fun b => some (en_spec_l00In b)) z.1 z.2.1 z.2.2.1 := by kernel_rfl
theorem so_spec_l00In : Sound C0 83 k_spec_l00In :=
  Sound.fx a_spec_l00In mixed Tryd.func83 (by kernel_rfl) (by kernel_rfl) noHints 1 noHints_ok (fun z => (r_spec_l00In z).trans (nat_spec_l00In _ z.1 z.2.1 z.2.2.1))

/-! ### F132 spec.l24Forms -/
noncomputable def T_spec_l24Forms : List (FuncId × Contract) := []
theorem a_spec_l24Forms : AllSound C0 T_spec_l24Forms := .nil
noncomputable def t_spec_l24Forms {R : Type} (kx : (List ByteArray) → Option R) : Option R :=
  kx [(ByteArray.mk (Array.mk [])), (ByteArray.mk (Array.mk [])), (ByteArray.mk (Array.mk [])), (ByteArray.mk (Array.mk [108, 108])), (ByteArray.mk (Array.mk [112, 112])), (ByteArray.mk (Array.mk [108, 120])), (ByteArray.mk (Array.mk [112, 112])), (ByteArray.mk (Array.mk [112, 112])), (ByteArray.mk (Array.mk [108, 108, 107])), (ByteArray.mk (Array.mk [108, 112])), (ByteArray.mk (Array.mk [112, 108, 112, 107])), (ByteArray.mk (Array.mk [112, 108, 112, 108, 107])), (ByteArray.mk (Array.mk [112, 108, 108]))]
noncomputable def g_spec_l24Forms : Option ((List ByteArray)) := t_spec_l24Forms some
theorem nat_spec_l24Forms {R : Type} (kx : (List ByteArray) → Option R) : t_spec_l24Forms kx = (g_spec_l24Forms).bind kx := by
  unfold g_spec_l24Forms t_spec_l24Forms
  exact rfl
abbrev as_spec_l24Forms : List AX := []
abbrev en_spec_l24Forms : (List ByteArray) → AV × List CV := fun b => (.one ⟨false, [(.own .str b)]⟩, [])
noncomputable abbrev k_spec_l24Forms : Contract := .fx as_spec_l24Forms ((List ByteArray)) (fun z => g_spec_l24Forms) en_spec_l24Forms
theorem r_spec_l24Forms (z : argsX as_spec_l24Forms) : runF (tab C0 T_spec_l24Forms) noHints 1 Tryd.f132 (lentOf as_spec_l24Forms) (xBoxes as_spec_l24Forms z) (xVals as_spec_l24Forms 0 z) K2 = t_spec_l24Forms (fun b => some (en_spec_l24Forms b)) := by kernel_rfl
theorem so_spec_l24Forms : Sound C0 132 k_spec_l24Forms :=
  Sound.fx a_spec_l24Forms mixed Tryd.func132 (by kernel_rfl) (by kernel_rfl) noHints 1 noHints_ok (fun z => (r_spec_l24Forms z).trans (nat_spec_l24Forms _))

/-! ### F85 spec.l24Chooses -/
noncomputable def T_spec_l24Chooses : List (FuncId × Contract) := [(132, k_spec_l24Forms)]
theorem a_spec_l24Chooses : AllSound C0 T_spec_l24Chooses := .cons so_spec_l24Forms (.nil)
noncomputable def t_spec_l24Chooses {R : Type} (kx : Bool → Option R) (a0 : Int) : Option R :=
  Option.bind g_spec_l24Forms fun y61 =>
  Option.bind (idx y61 a0) fun y62 =>
  cond (!((ByteArray.toList y62) == (ByteArray.toList (ByteArray.mk (Array.mk [])))))
  (Option.bind (idxB y62 (IntKind.wrap IntKind.i64 ((((ByteArray.size y62) : Nat) : Int) - (1 : Int)))) fun y63 =>
   kx ((((UInt8.toNat y63) : Nat) : Int) == (107 : Int)))
  (kx Bool.false)
noncomputable def g_spec_l24Chooses (a0 : Int) : Option (Bool) := t_spec_l24Chooses some a0
theorem nat_spec_l24Chooses {R : Type} (kx : Bool → Option R) (a0 : Int) : t_spec_l24Chooses kx a0 = (g_spec_l24Chooses a0).bind kx := by
  unfold g_spec_l24Chooses t_spec_l24Chooses
  exact nat_bind fun _ => nat_bind fun _ => nat_cond (nat_bind fun _ => rfl) (rfl)
abbrev as_spec_l24Chooses : List AX := [.val false (.int .i64)]
abbrev en_spec_l24Chooses : Bool → AV × List CV := fun b => (.one ⟨false, [(.v (.bool b))]⟩, [])
noncomputable abbrev k_spec_l24Chooses : Contract := .fx as_spec_l24Chooses (Bool) (fun z => g_spec_l24Chooses z.1) en_spec_l24Chooses
theorem r_spec_l24Chooses (z : argsX as_spec_l24Chooses) : runF (tab C0 T_spec_l24Chooses) noHints 1 Tryd.f85 (lentOf as_spec_l24Chooses) (xBoxes as_spec_l24Chooses z) (xVals as_spec_l24Chooses 0 z) K2 = t_spec_l24Chooses (fun b => some (en_spec_l24Chooses b)) z.1 := by kernel_rfl
theorem so_spec_l24Chooses : Sound C0 85 k_spec_l24Chooses :=
  Sound.fx a_spec_l24Chooses mixed Tryd.func85 (by kernel_rfl) (by kernel_rfl) noHints 1 noHints_ok (fun z => (r_spec_l24Chooses z).trans (nat_spec_l24Chooses _ z.1))

/-! ### F84 spec.l24Args -/
noncomputable def T_spec_l24Args : List (FuncId × Contract) := [(132, k_spec_l24Forms), (85, k_spec_l24Chooses)]
theorem a_spec_l24Args : AllSound C0 T_spec_l24Args := .cons so_spec_l24Forms (.cons so_spec_l24Chooses (.nil))
noncomputable def t_spec_l24Args {R : Type} (kx : Int → Option R) (a0 : Int) : Option R :=
  Option.bind g_spec_l24Forms fun y58 =>
  Option.bind (idx y58 a0) fun y59 =>
  Option.bind (g_spec_l24Chooses a0) fun y64 =>
  cond y64
  (kx (IntKind.wrap IntKind.i64 ((((ByteArray.size y59) : Nat) : Int) - (1 : Int))))
  (kx (((ByteArray.size y59) : Nat) : Int))
noncomputable def g_spec_l24Args (a0 : Int) : Option (Int) := t_spec_l24Args some a0
theorem nat_spec_l24Args {R : Type} (kx : Int → Option R) (a0 : Int) : t_spec_l24Args kx a0 = (g_spec_l24Args a0).bind kx := by
  unfold g_spec_l24Args t_spec_l24Args
  exact nat_bind fun _ => nat_bind fun _ => nat_bind fun _ => nat_cond (rfl) (rfl)
abbrev as_spec_l24Args : List AX := [.val false (.int .i64)]
abbrev en_spec_l24Args : Int → AV × List CV := fun b => (.one ⟨false, [(.v (.int .i64 b))]⟩, [])
noncomputable abbrev k_spec_l24Args : Contract := .fx as_spec_l24Args (Int) (fun z => g_spec_l24Args z.1) en_spec_l24Args
theorem r_spec_l24Args (z : argsX as_spec_l24Args) : runF (tab C0 T_spec_l24Args) noHints 1 Tryd.f84 (lentOf as_spec_l24Args) (xBoxes as_spec_l24Args z) (xVals as_spec_l24Args 0 z) K2 = t_spec_l24Args (fun b => some (en_spec_l24Args b)) z.1 := by kernel_rfl
theorem so_spec_l24Args : Sound C0 84 k_spec_l24Args :=
  Sound.fx a_spec_l24Args mixed Tryd.func84 (by kernel_rfl) (by kernel_rfl) noHints 1 noHints_ok (fun z => (r_spec_l24Args z).trans (nat_spec_l24Args _ z.1))

/-! ### F133 spec.l01Ok -/
noncomputable def T_spec_l01Ok : List (FuncId × Contract) := [(83, k_spec_l00In)]
theorem a_spec_l01Ok : AllSound C0 T_spec_l01Ok := .cons so_spec_l00In (.nil)
noncomputable def t_spec_l01Ok {R : Type} (kx : Bool → Option R) (a0 : (Int × (Int × Int))) : Option R :=
  Option.bind (g_spec_l00In a0.1 (-(131072 : Int)) (131072 : Int)) fun y118 =>
  cond (!y118)
  (kx Bool.false)
  (Option.bind (g_spec_l00In a0.2.1 (-(131072 : Int)) (131072 : Int)) fun y119 =>
   cond (!y119)
   (kx Bool.false)
   (Option.bind (g_spec_l00In a0.2.2 (0 : Int) (10 : Int)) fun y120 =>
    cond (!y120)
    (kx Bool.false)
    (cond (a0.2.2 == (0 : Int))
     (kx Bool.true)
     (cond ((Int.tmod a0.1 (2 : Int)) != (0 : Int))
      (kx Bool.true)
      (kx ((Int.tmod a0.2.1 (2 : Int)) != (0 : Int)))))))
noncomputable def g_spec_l01Ok (a0 : (Int × (Int × Int))) : Option (Bool) := t_spec_l01Ok some a0
theorem nat_spec_l01Ok {R : Type} (kx : Bool → Option R) (a0 : (Int × (Int × Int))) : t_spec_l01Ok kx a0 = (g_spec_l01Ok a0).bind kx := by
  unfold g_spec_l01Ok t_spec_l01Ok
  exact nat_bind fun _ => nat_cond (rfl) (nat_bind fun _ => nat_cond (rfl) (nat_bind fun _ => nat_cond (rfl) (nat_cond (rfl) (nat_cond (rfl) (rfl)))))
abbrev as_spec_l01Ok : List AX := [.val true (.pair (.int .i64) (.pair (.int .i64) (.int .i64)))]
abbrev en_spec_l01Ok : Bool → AV × List CV := fun b => (.one ⟨false, [(.v (.bool b))]⟩, [])
noncomputable abbrev k_spec_l01Ok : Contract := .fx as_spec_l01Ok (Bool) (fun z => g_spec_l01Ok z.1) en_spec_l01Ok
theorem r_spec_l01Ok (z : argsX as_spec_l01Ok) : runF (tab C0 T_spec_l01Ok) noHints 1 Tryd.f133 (lentOf as_spec_l01Ok) (xBoxes as_spec_l01Ok z) (xVals as_spec_l01Ok 0 z) K2 = t_spec_l01Ok (fun b => some (en_spec_l01Ok b)) z.1 := by kernel_rfl
theorem so_spec_l01Ok : Sound C0 133 k_spec_l01Ok :=
  Sound.fx a_spec_l01Ok mixed Tryd.func133 (by kernel_rfl) (by kernel_rfl) noHints 1 noHints_ok (fun z => (r_spec_l01Ok z).trans (nat_spec_l01Ok _ z.1))

/-! ### F86 spec.l02Point -/
noncomputable def T_spec_l02Point : List (FuncId × Contract) := [(133, k_spec_l01Ok)]
theorem a_spec_l02Point : AllSound C0 T_spec_l02Point := .cons so_spec_l01Ok (.nil)
noncomputable def t_spec_l02Point {R : Type} (kx : Bool → Option R) (a0 : ((Int × (Int × Int)) × (Int × (Int × Int)))) : Option R :=
  Option.bind (g_spec_l01Ok a0.1) fun y121 =>
  cond y121
  (Option.bind (g_spec_l01Ok a0.2) fun y122 =>
   kx y122)
  (kx Bool.false)
noncomputable def g_spec_l02Point (a0 : ((Int × (Int × Int)) × (Int × (Int × Int)))) : Option (Bool) := t_spec_l02Point some a0
theorem nat_spec_l02Point {R : Type} (kx : Bool → Option R) (a0 : ((Int × (Int × Int)) × (Int × (Int × Int)))) : t_spec_l02Point kx a0 = (g_spec_l02Point a0).bind kx := by
  unfold g_spec_l02Point t_spec_l02Point
  exact nat_bind fun _ => nat_cond (nat_bind fun _ => rfl) (rfl)
abbrev as_spec_l02Point : List AX := [.val true (.pair (.pair (.int .i64) (.pair (.int .i64) (.int .i64))) (.pair (.int .i64) (.pair (.int .i64) (.int .i64))))]
abbrev en_spec_l02Point : Bool → AV × List CV := fun b => (.one ⟨false, [(.v (.bool b))]⟩, [])
noncomputable abbrev k_spec_l02Point : Contract := .fx as_spec_l02Point (Bool) (fun z => g_spec_l02Point z.1) en_spec_l02Point
theorem r_spec_l02Point (z : argsX as_spec_l02Point) : runF (tab C0 T_spec_l02Point) noHints 1 Tryd.f86 (lentOf as_spec_l02Point) (xBoxes as_spec_l02Point z) (xVals as_spec_l02Point 0 z) K2 = t_spec_l02Point (fun b => some (en_spec_l02Point b)) z.1 := by kernel_rfl
theorem so_spec_l02Point : Sound C0 86 k_spec_l02Point :=
  Sound.fx a_spec_l02Point mixed Tryd.func86 (by kernel_rfl) (by kernel_rfl) noHints 1 noHints_ok (fun z => (r_spec_l02Point z).trans (nat_spec_l02Point _ z.1))

/-! ### F87 spec.l02Line -/
noncomputable def T_spec_l02Line : List (FuncId × Contract) := [(83, k_spec_l00In), (133, k_spec_l01Ok)]
theorem a_spec_l02Line : AllSound C0 T_spec_l02Line := .cons so_spec_l00In (.cons so_spec_l01Ok (.nil))
noncomputable def t_spec_l02Line {R : Type} (kx : Bool → Option R) (a0 : (Int × (Int × (Int × Int)))) : Option R :=
  Option.bind (g_spec_l00In a0.1 (0 : Int) (7 : Int)) fun y125 =>
  cond y125
  (Option.bind (g_spec_l01Ok a0.2) fun y126 =>
   kx y126)
  (kx Bool.false)
noncomputable def g_spec_l02Line (a0 : (Int × (Int × (Int × Int)))) : Option (Bool) := t_spec_l02Line some a0
theorem nat_spec_l02Line {R : Type} (kx : Bool → Option R) (a0 : (Int × (Int × (Int × Int)))) : t_spec_l02Line kx a0 = (g_spec_l02Line a0).bind kx := by
  unfold g_spec_l02Line t_spec_l02Line
  exact nat_bind fun _ => nat_cond (nat_bind fun _ => rfl) (rfl)
abbrev as_spec_l02Line : List AX := [.val true (.pair (.int .i64) (.pair (.int .i64) (.pair (.int .i64) (.int .i64))))]
abbrev en_spec_l02Line : Bool → AV × List CV := fun b => (.one ⟨false, [(.v (.bool b))]⟩, [])
noncomputable abbrev k_spec_l02Line : Contract := .fx as_spec_l02Line (Bool) (fun z => g_spec_l02Line z.1) en_spec_l02Line
theorem r_spec_l02Line (z : argsX as_spec_l02Line) : runF (tab C0 T_spec_l02Line) noHints 1 Tryd.f87 (lentOf as_spec_l02Line) (xBoxes as_spec_l02Line z) (xVals as_spec_l02Line 0 z) K2 = t_spec_l02Line (fun b => some (en_spec_l02Line b)) z.1 := by kernel_rfl
theorem so_spec_l02Line : Sound C0 87 k_spec_l02Line :=
  Sound.fx a_spec_l02Line mixed Tryd.func87 (by kernel_rfl) (by kernel_rfl) noHints 1 noHints_ok (fun z => (r_spec_l02Line z).trans (nat_spec_l02Line _ z.1))

/-! ### F43 spec.l24Ok -/
noncomputable def T_spec_l24Ok : List (FuncId × Contract) := [(82, k_spec_IsName), (83, k_spec_l00In), (84, k_spec_l24Args), (85, k_spec_l24Chooses), (86, k_spec_l02Point), (87, k_spec_l02Line)]
theorem a_spec_l24Ok : AllSound C0 T_spec_l24Ok := .cons so_spec_IsName (.cons so_spec_l00In (.cons so_spec_l24Args (.cons so_spec_l24Chooses (.cons so_spec_l02Point (.cons so_spec_l02Line (.nil))))))
abbrev s_spec_l24Ok_7 : LS := ⟨[(false, [(.ptr 112 0)]), (false, [(.int .i64)])], [(true, [.str, (.int .i64), (.sl .str), (.int .i64), (.int .i64), (.int .i64), (.int .i64), (.int .i64), (.int .i64), (.int .i64), (.int .i64), (.int .i64), (.int .i64), (.int .i64)])], []⟩
abbrev e_spec_l24Ok_7_0 : LS := ⟨[(false, [(.ptr 112 0)]), (false, [.bool])], [(true, [.str, (.int .i64), (.sl .str), (.int .i64), (.int .i64), (.int .i64), (.int .i64), (.int .i64), (.int .i64), (.int .i64), (.int .i64), (.int .i64), (.int .i64), (.int .i64)])], []⟩
abbrev d_spec_l24Ok_7_0 (v0 : Bool) (v1 : ByteArray) (v2 : Int) (v3 : List ByteArray) (v4 : Int) (v5 : Int) (v6 : Int) (v7 : Int) (v8 : Int) (v9 : Int) (v10 : Int) (v11 : Int) (v12 : Int) (v13 : Int) (v14 : Int) : e_spec_l24Ok_7_0.T := ((((), ()), (v0, ()), ()), ((v1, v2, v3, v4, v5, v6, v7, v8, v9, v10, v11, v12, v13, v14, ()), ()), ())
abbrev e_spec_l24Ok_7_1 : LS := ⟨[(false, [(.ptr 112 0)]), (false, [.undef])], [(true, [.str, (.int .i64), (.sl .str), (.int .i64), (.int .i64), (.int .i64), (.int .i64), (.int .i64), (.int .i64), (.int .i64), (.int .i64), (.int .i64), (.int .i64), (.int .i64)])], []⟩
abbrev d_spec_l24Ok_7_1 (v0 : ByteArray) (v1 : Int) (v2 : List ByteArray) (v3 : Int) (v4 : Int) (v5 : Int) (v6 : Int) (v7 : Int) (v8 : Int) (v9 : Int) (v10 : Int) (v11 : Int) (v12 : Int) (v13 : Int) : e_spec_l24Ok_7_1.T := ((((), ()), ((), ()), ()), ((v0, v1, v2, v3, v4, v5, v6, v7, v8, v9, v10, v11, v12, v13, ()), ()), ())
abbrev x_spec_l24Ok_7 : List (Ex × LS) := [(.ret, e_spec_l24Ok_7_0), (.exit 0, e_spec_l24Ok_7_1)]
abbrev m_spec_l24Ok_7 (x3 : Int) (b0_0 : ByteArray) (b0_1 : Int) (b0_2 : List ByteArray) (b0_3 : Int) (b0_4 : Int) (b0_5 : Int) (b0_6 : Int) (b0_7 : Int) (b0_8 : Int) (b0_9 : Int) (b0_10 : Int) (b0_11 : Int) (b0_12 : Int) (b0_13 : Int) : s_spec_l24Ok_7.T := ((((), ()), (x3, ()), ()), ((b0_0, b0_1, b0_2, b0_3, b0_4, b0_5, b0_6, b0_7, b0_8, b0_9, b0_10, b0_11, b0_12, b0_13, ()), ()), ())
noncomputable def u_spec_l24Ok_7 {R : Type} (nx : s_spec_l24Ok_7.T → Option R) (hx : exH R x_spec_l24Ok_7) (x3 : Int) (b0_0 : ByteArray) (b0_1 : Int) (b0_2 : List ByteArray) (b0_3 : Int) (b0_4 : Int) (b0_5 : Int) (b0_6 : Int) (b0_7 : Int) (b0_8 : Int) (b0_9 : Int) (b0_10 : Int) (b0_11 : Int) (b0_12 : Int) (b0_13 : Int) : Option R :=
  cond (decide (x3 < (((List.length b0_2) : Nat) : Int)))
  (Option.bind (idx b0_2 x3) fun y83 =>
   Option.bind (g_spec_IsName y83) fun y84 =>
   cond (!y84)
   (hx.1 (d_spec_l24Ok_7_0 Bool.false b0_0 b0_1 b0_2 b0_3 b0_4 b0_5 b0_6 b0_7 b0_8 b0_9 b0_10 b0_11 b0_12 b0_13))
   (nx (m_spec_l24Ok_7 (IntKind.wrap IntKind.i64 (x3 + (1 : Int))) b0_0 b0_1 b0_2 b0_3 b0_4 b0_5 b0_6 b0_7 b0_8 b0_9 b0_10 b0_11 b0_12 b0_13)))
  (hx.2.1 (d_spec_l24Ok_7_1 b0_0 b0_1 b0_2 b0_3 b0_4 b0_5 b0_6 b0_7 b0_8 b0_9 b0_10 b0_11 b0_12 b0_13))
noncomputable def t_spec_l24Ok_7 {R : Type} (nx : s_spec_l24Ok_7.T → Option R) (hx : exH R x_spec_l24Ok_7) (z : s_spec_l24Ok_7.T) : Option R := u_spec_l24Ok_7 nx hx z.1.2.1.1 z.2.1.1.1 z.2.1.1.2.1 z.2.1.1.2.2.1 z.2.1.1.2.2.2.1 z.2.1.1.2.2.2.2.1 z.2.1.1.2.2.2.2.2.1 z.2.1.1.2.2.2.2.2.2.1 z.2.1.1.2.2.2.2.2.2.2.1 z.2.1.1.2.2.2.2.2.2.2.2.1 z.2.1.1.2.2.2.2.2.2.2.2.2.1 z.2.1.1.2.2.2.2.2.2.2.2.2.2.1 z.2.1.1.2.2.2.2.2.2.2.2.2.2.2.1 z.2.1.1.2.2.2.2.2.2.2.2.2.2.2.2.1 z.2.1.1.2.2.2.2.2.2.2.2.2.2.2.2.2.1
theorem nat_spec_l24Ok_7 : Natural @t_spec_l24Ok_7 := fun R nx hx z => by
  show u_spec_l24Ok_7 nx hx z.1.2.1.1 z.2.1.1.1 z.2.1.1.2.1 z.2.1.1.2.2.1 z.2.1.1.2.2.2.1 z.2.1.1.2.2.2.2.1 z.2.1.1.2.2.2.2.2.1 z.2.1.1.2.2.2.2.2.2.1 z.2.1.1.2.2.2.2.2.2.2.1 z.2.1.1.2.2.2.2.2.2.2.2.1 z.2.1.1.2.2.2.2.2.2.2.2.2.1 z.2.1.1.2.2.2.2.2.2.2.2.2.2.1 z.2.1.1.2.2.2.2.2.2.2.2.2.2.2.1 z.2.1.1.2.2.2.2.2.2.2.2.2.2.2.2.1 z.2.1.1.2.2.2.2.2.2.2.2.2.2.2.2.2.1 = (u_spec_l24Ok_7 (fun y => some (.inl y)) (hIn x_spec_l24Ok_7 fun x => some (.inr x)) z.1.2.1.1 z.2.1.1.1 z.2.1.1.2.1 z.2.1.1.2.2.1 z.2.1.1.2.2.2.1 z.2.1.1.2.2.2.2.1 z.2.1.1.2.2.2.2.2.1 z.2.1.1.2.2.2.2.2.2.1 z.2.1.1.2.2.2.2.2.2.2.1 z.2.1.1.2.2.2.2.2.2.2.2.1 z.2.1.1.2.2.2.2.2.2.2.2.2.1 z.2.1.1.2.2.2.2.2.2.2.2.2.2.1 z.2.1.1.2.2.2.2.2.2.2.2.2.2.2.1 z.2.1.1.2.2.2.2.2.2.2.2.2.2.2.2.1 z.2.1.1.2.2.2.2.2.2.2.2.2.2.2.2.2.1).bind (goOn nx hx)
  unfold u_spec_l24Ok_7
  exact nat_cond (nat_bind fun _ => nat_bind fun _ => nat_cond (rfl) (rfl)) (rfl)
noncomputable def w_spec_l24Ok_7 : s_spec_l24Ok_7.T → Option (exT x_spec_l24Ok_7) := wOf @t_spec_l24Ok_7
theorem wq_spec_l24Ok_7 (x3 : Int) (b0_0 : ByteArray) (b0_1 : Int) (b0_2 : List ByteArray) (b0_3 : Int) (b0_4 : Int) (b0_5 : Int) (b0_6 : Int) (b0_7 : Int) (b0_8 : Int) (b0_9 : Int) (b0_10 : Int) (b0_11 : Int) (b0_12 : Int) (b0_13 : Int) : w_spec_l24Ok_7 (m_spec_l24Ok_7 x3 b0_0 b0_1 b0_2 b0_3 b0_4 b0_5 b0_6 b0_7 b0_8 b0_9 b0_10 b0_11 b0_12 b0_13) = u_spec_l24Ok_7 w_spec_l24Ok_7 (hIn x_spec_l24Ok_7 some) x3 b0_0 b0_1 b0_2 b0_3 b0_4 b0_5 b0_6 b0_7 b0_8 b0_9 b0_10 b0_11 b0_12 b0_13 := wOf_eq nat_spec_l24Ok_7 _
def lh_spec_l24Ok_7 : LoopHint := ⟨[0, 3], [112], [0, 2], [112]⟩
noncomputable def h_spec_l24Ok : Hints Rv := ⟨fun k => match k with | 7 => lh_spec_l24Ok_7 | _ => ⟨[], [], [], []⟩, fun k => match k with | 7 => some (loopX s_spec_l24Ok_7 x_spec_l24Ok_7 w_spec_l24Ok_7) | _ => none⟩
theorem st_spec_l24Ok_7 (n : Nat) (z : s_spec_l24Ok_7.T) (k : Ex → Live → Option Rv) : loopN ⟨112, 113⟩ lh_spec_l24Ok_7 (den (tab C0 T_spec_l24Ok) ⟨112, 113⟩ h_spec_l24Ok 1 (loopOf Tryd.f43 6)) (n + 1) (s_spec_l24Ok_7.enc z) k =
    t_spec_l24Ok_7 (fun y => loopN ⟨112, 113⟩ lh_spec_l24Ok_7 (den (tab C0 T_spec_l24Ok) ⟨112, 113⟩ h_spec_l24Ok 1 (loopOf Tryd.f43 6)) n (s_spec_l24Ok_7.enc y) k) (hK k x_spec_l24Ok_7) z := by kernel_rfl
theorem hs_spec_l24Ok : HintsOk (tab C0 T_spec_l24Ok) ⟨112, 113⟩ h_spec_l24Ok 1 (loops (codeOf Tryd.f43)) := by
  have hl : loops (codeOf Tryd.f43) = [loopOf Tryd.f43 6] := by kernel_rfl
  rw [hl]
  exact HintsOk.cons (n := 7) (lh := lh_spec_l24Ok_7) (S := loopX s_spec_l24Ok_7 x_spec_l24Ok_7 w_spec_l24Ok_7) (by kernel_rfl) rfl rfl (loopX_ok nat_spec_l24Ok_7 st_spec_l24Ok_7)
    (HintsOk.nil)
noncomputable def t_spec_l24Ok {R : Type} (kx : Bool → Option R) (a0 : (ByteArray × (Int × ((List ByteArray) × (Int × (((Int × (Int × Int)) × (Int × (Int × Int))) × (Int × (Int × (Int × Int))))))))) : Option R :=
  Option.bind (g_spec_IsName a0.1) fun y52 =>
  cond (!y52)
  (kx Bool.false)
  (Option.bind (g_spec_l00In a0.2.1 (1 : Int) (12 : Int)) fun y56 =>
   cond (!y56)
   (kx Bool.false)
   (Option.bind (g_spec_l24Args a0.2.1) fun y65 =>
    cond ((((List.length a0.2.2.1) : Nat) : Int) != y65)
    (kx Bool.false)
    (Option.bind (g_spec_l00In a0.2.2.2.1 (0 : Int) (7 : Int)) fun y66 =>
     cond (!y66)
     (kx Bool.false)
     (Option.bind (g_spec_l24Chooses a0.2.1) fun y67 =>
      cond (!y67)
      (cond (a0.2.2.2.1 != (0 : Int))
       (kx Bool.false)
       (cond (a0.2.1 != (1 : Int))
        (cond (!(((a0.2.2.2.2.1.1.1 == (0 : Int)) && ((a0.2.2.2.2.1.1.2.1 == (0 : Int)) && ((a0.2.2.2.2.1.1.2.2 == (0 : Int)) && Bool.true))) && (((a0.2.2.2.2.1.2.1 == (0 : Int)) && ((a0.2.2.2.2.1.2.2.1 == (0 : Int)) && ((a0.2.2.2.2.1.2.2.2 == (0 : Int)) && Bool.true))) && Bool.true)))
         (kx Bool.false)
         (cond (a0.2.1 != (2 : Int))
          (cond (!((a0.2.2.2.2.2.1 == (0 : Int)) && (((a0.2.2.2.2.2.2.1 == (0 : Int)) && ((a0.2.2.2.2.2.2.2.1 == (0 : Int)) && ((a0.2.2.2.2.2.2.2.2 == (0 : Int)) && Bool.true))) && Bool.true)))
           (kx Bool.false)
           (Option.bind (w_spec_l24Ok_7 (m_spec_l24Ok_7 (0 : Int) a0.1 a0.2.1 a0.2.2.1 a0.2.2.2.1 a0.2.2.2.2.1.1.1 a0.2.2.2.2.1.1.2.1 a0.2.2.2.2.1.1.2.2 a0.2.2.2.2.1.2.1 a0.2.2.2.2.1.2.2.1 a0.2.2.2.2.1.2.2.2 a0.2.2.2.2.2.1 a0.2.2.2.2.2.2.1 a0.2.2.2.2.2.2.2.1 a0.2.2.2.2.2.2.2.2)) (exC x_spec_l24Ok_7
            (fun e85 =>
             kx (e85.1.2.1.1 : Bool), fun e101 =>
             Option.bind (g_spec_l02Point (((e101.2.1.1.2.2.2.2.1 : Int), ((e101.2.1.1.2.2.2.2.2.1 : Int), (e101.2.1.1.2.2.2.2.2.2.1 : Int))), ((e101.2.1.1.2.2.2.2.2.2.2.1 : Int), ((e101.2.1.1.2.2.2.2.2.2.2.2.1 : Int), (e101.2.1.1.2.2.2.2.2.2.2.2.2.1 : Int))))) fun y123 =>
             cond y123
             (Option.bind (g_spec_l02Line ((e101.2.1.1.2.2.2.2.2.2.2.2.2.2.1 : Int), ((e101.2.1.1.2.2.2.2.2.2.2.2.2.2.2.1 : Int), ((e101.2.1.1.2.2.2.2.2.2.2.2.2.2.2.2.1 : Int), (e101.2.1.1.2.2.2.2.2.2.2.2.2.2.2.2.2.1 : Int))))) fun y127 =>
              kx y127)
             (kx Bool.false), ()))))
          (Option.bind (w_spec_l24Ok_7 (m_spec_l24Ok_7 (0 : Int) a0.1 a0.2.1 a0.2.2.1 a0.2.2.2.1 a0.2.2.2.2.1.1.1 a0.2.2.2.2.1.1.2.1 a0.2.2.2.2.1.1.2.2 a0.2.2.2.2.1.2.1 a0.2.2.2.2.1.2.2.1 a0.2.2.2.2.1.2.2.2 a0.2.2.2.2.2.1 a0.2.2.2.2.2.2.1 a0.2.2.2.2.2.2.2.1 a0.2.2.2.2.2.2.2.2)) (exC x_spec_l24Ok_7
           (fun e128 =>
            kx (e128.1.2.1.1 : Bool), fun e144 =>
            Option.bind (g_spec_l02Point (((e144.2.1.1.2.2.2.2.1 : Int), ((e144.2.1.1.2.2.2.2.2.1 : Int), (e144.2.1.1.2.2.2.2.2.2.1 : Int))), ((e144.2.1.1.2.2.2.2.2.2.2.1 : Int), ((e144.2.1.1.2.2.2.2.2.2.2.2.1 : Int), (e144.2.1.1.2.2.2.2.2.2.2.2.2.1 : Int))))) fun y159 =>
            cond y159
            (Option.bind (g_spec_l02Line ((e144.2.1.1.2.2.2.2.2.2.2.2.2.2.1 : Int), ((e144.2.1.1.2.2.2.2.2.2.2.2.2.2.2.1 : Int), ((e144.2.1.1.2.2.2.2.2.2.2.2.2.2.2.2.1 : Int), (e144.2.1.1.2.2.2.2.2.2.2.2.2.2.2.2.2.1 : Int))))) fun y160 =>
             kx y160)
            (kx Bool.false), ())))))
        (cond (a0.2.1 != (2 : Int))
         (cond (!((a0.2.2.2.2.2.1 == (0 : Int)) && (((a0.2.2.2.2.2.2.1 == (0 : Int)) && ((a0.2.2.2.2.2.2.2.1 == (0 : Int)) && ((a0.2.2.2.2.2.2.2.2 == (0 : Int)) && Bool.true))) && Bool.true)))
          (kx Bool.false)
          (Option.bind (w_spec_l24Ok_7 (m_spec_l24Ok_7 (0 : Int) a0.1 a0.2.1 a0.2.2.1 a0.2.2.2.1 a0.2.2.2.2.1.1.1 a0.2.2.2.2.1.1.2.1 a0.2.2.2.2.1.1.2.2 a0.2.2.2.2.1.2.1 a0.2.2.2.2.1.2.2.1 a0.2.2.2.2.1.2.2.2 a0.2.2.2.2.2.1 a0.2.2.2.2.2.2.1 a0.2.2.2.2.2.2.2.1 a0.2.2.2.2.2.2.2.2)) (exC x_spec_l24Ok_7
           (fun e161 =>
            kx (e161.1.2.1.1 : Bool), fun e177 =>
            Option.bind (g_spec_l02Point (((e177.2.1.1.2.2.2.2.1 : Int), ((e177.2.1.1.2.2.2.2.2.1 : Int), (e177.2.1.1.2.2.2.2.2.2.1 : Int))), ((e177.2.1.1.2.2.2.2.2.2.2.1 : Int), ((e177.2.1.1.2.2.2.2.2.2.2.2.1 : Int), (e177.2.1.1.2.2.2.2.2.2.2.2.2.1 : Int))))) fun y192 =>
            cond y192
            (Option.bind (g_spec_l02Line ((e177.2.1.1.2.2.2.2.2.2.2.2.2.2.1 : Int), ((e177.2.1.1.2.2.2.2.2.2.2.2.2.2.2.1 : Int), ((e177.2.1.1.2.2.2.2.2.2.2.2.2.2.2.2.1 : Int), (e177.2.1.1.2.2.2.2.2.2.2.2.2.2.2.2.2.1 : Int))))) fun y193 =>
             kx y193)
            (kx Bool.false), ()))))
         (Option.bind (w_spec_l24Ok_7 (m_spec_l24Ok_7 (0 : Int) a0.1 a0.2.1 a0.2.2.1 a0.2.2.2.1 a0.2.2.2.2.1.1.1 a0.2.2.2.2.1.1.2.1 a0.2.2.2.2.1.1.2.2 a0.2.2.2.2.1.2.1 a0.2.2.2.2.1.2.2.1 a0.2.2.2.2.1.2.2.2 a0.2.2.2.2.2.1 a0.2.2.2.2.2.2.1 a0.2.2.2.2.2.2.2.1 a0.2.2.2.2.2.2.2.2)) (exC x_spec_l24Ok_7
          (fun e194 =>
           kx (e194.1.2.1.1 : Bool), fun e210 =>
           Option.bind (g_spec_l02Point (((e210.2.1.1.2.2.2.2.1 : Int), ((e210.2.1.1.2.2.2.2.2.1 : Int), (e210.2.1.1.2.2.2.2.2.2.1 : Int))), ((e210.2.1.1.2.2.2.2.2.2.2.1 : Int), ((e210.2.1.1.2.2.2.2.2.2.2.2.1 : Int), (e210.2.1.1.2.2.2.2.2.2.2.2.2.1 : Int))))) fun y225 =>
           cond y225
           (Option.bind (g_spec_l02Line ((e210.2.1.1.2.2.2.2.2.2.2.2.2.2.1 : Int), ((e210.2.1.1.2.2.2.2.2.2.2.2.2.2.2.1 : Int), ((e210.2.1.1.2.2.2.2.2.2.2.2.2.2.2.2.1 : Int), (e210.2.1.1.2.2.2.2.2.2.2.2.2.2.2.2.2.1 : Int))))) fun y226 =>
            kx y226)
           (kx Bool.false), ()))))))
      (cond (a0.2.1 != (1 : Int))
       (cond (!(((a0.2.2.2.2.1.1.1 == (0 : Int)) && ((a0.2.2.2.2.1.1.2.1 == (0 : Int)) && ((a0.2.2.2.2.1.1.2.2 == (0 : Int)) && Bool.true))) && (((a0.2.2.2.2.1.2.1 == (0 : Int)) && ((a0.2.2.2.2.1.2.2.1 == (0 : Int)) && ((a0.2.2.2.2.1.2.2.2 == (0 : Int)) && Bool.true))) && Bool.true)))
        (kx Bool.false)
        (cond (a0.2.1 != (2 : Int))
         (cond (!((a0.2.2.2.2.2.1 == (0 : Int)) && (((a0.2.2.2.2.2.2.1 == (0 : Int)) && ((a0.2.2.2.2.2.2.2.1 == (0 : Int)) && ((a0.2.2.2.2.2.2.2.2 == (0 : Int)) && Bool.true))) && Bool.true)))
          (kx Bool.false)
          (Option.bind (w_spec_l24Ok_7 (m_spec_l24Ok_7 (0 : Int) a0.1 a0.2.1 a0.2.2.1 a0.2.2.2.1 a0.2.2.2.2.1.1.1 a0.2.2.2.2.1.1.2.1 a0.2.2.2.2.1.1.2.2 a0.2.2.2.2.1.2.1 a0.2.2.2.2.1.2.2.1 a0.2.2.2.2.1.2.2.2 a0.2.2.2.2.2.1 a0.2.2.2.2.2.2.1 a0.2.2.2.2.2.2.2.1 a0.2.2.2.2.2.2.2.2)) (exC x_spec_l24Ok_7
           (fun e227 =>
            kx (e227.1.2.1.1 : Bool), fun e243 =>
            Option.bind (g_spec_l02Point (((e243.2.1.1.2.2.2.2.1 : Int), ((e243.2.1.1.2.2.2.2.2.1 : Int), (e243.2.1.1.2.2.2.2.2.2.1 : Int))), ((e243.2.1.1.2.2.2.2.2.2.2.1 : Int), ((e243.2.1.1.2.2.2.2.2.2.2.2.1 : Int), (e243.2.1.1.2.2.2.2.2.2.2.2.2.1 : Int))))) fun y258 =>
            cond y258
            (Option.bind (g_spec_l02Line ((e243.2.1.1.2.2.2.2.2.2.2.2.2.2.1 : Int), ((e243.2.1.1.2.2.2.2.2.2.2.2.2.2.2.1 : Int), ((e243.2.1.1.2.2.2.2.2.2.2.2.2.2.2.2.1 : Int), (e243.2.1.1.2.2.2.2.2.2.2.2.2.2.2.2.2.1 : Int))))) fun y259 =>
             kx y259)
            (kx Bool.false), ()))))
         (Option.bind (w_spec_l24Ok_7 (m_spec_l24Ok_7 (0 : Int) a0.1 a0.2.1 a0.2.2.1 a0.2.2.2.1 a0.2.2.2.2.1.1.1 a0.2.2.2.2.1.1.2.1 a0.2.2.2.2.1.1.2.2 a0.2.2.2.2.1.2.1 a0.2.2.2.2.1.2.2.1 a0.2.2.2.2.1.2.2.2 a0.2.2.2.2.2.1 a0.2.2.2.2.2.2.1 a0.2.2.2.2.2.2.2.1 a0.2.2.2.2.2.2.2.2)) (exC x_spec_l24Ok_7
          (fun e260 =>
           kx (e260.1.2.1.1 : Bool), fun e276 =>
           Option.bind (g_spec_l02Point (((e276.2.1.1.2.2.2.2.1 : Int), ((e276.2.1.1.2.2.2.2.2.1 : Int), (e276.2.1.1.2.2.2.2.2.2.1 : Int))), ((e276.2.1.1.2.2.2.2.2.2.2.1 : Int), ((e276.2.1.1.2.2.2.2.2.2.2.2.1 : Int), (e276.2.1.1.2.2.2.2.2.2.2.2.2.1 : Int))))) fun y291 =>
           cond y291
           (Option.bind (g_spec_l02Line ((e276.2.1.1.2.2.2.2.2.2.2.2.2.2.1 : Int), ((e276.2.1.1.2.2.2.2.2.2.2.2.2.2.2.1 : Int), ((e276.2.1.1.2.2.2.2.2.2.2.2.2.2.2.2.1 : Int), (e276.2.1.1.2.2.2.2.2.2.2.2.2.2.2.2.2.1 : Int))))) fun y292 =>
            kx y292)
           (kx Bool.false), ())))))
       (cond (a0.2.1 != (2 : Int))
        (cond (!((a0.2.2.2.2.2.1 == (0 : Int)) && (((a0.2.2.2.2.2.2.1 == (0 : Int)) && ((a0.2.2.2.2.2.2.2.1 == (0 : Int)) && ((a0.2.2.2.2.2.2.2.2 == (0 : Int)) && Bool.true))) && Bool.true)))
         (kx Bool.false)
         (Option.bind (w_spec_l24Ok_7 (m_spec_l24Ok_7 (0 : Int) a0.1 a0.2.1 a0.2.2.1 a0.2.2.2.1 a0.2.2.2.2.1.1.1 a0.2.2.2.2.1.1.2.1 a0.2.2.2.2.1.1.2.2 a0.2.2.2.2.1.2.1 a0.2.2.2.2.1.2.2.1 a0.2.2.2.2.1.2.2.2 a0.2.2.2.2.2.1 a0.2.2.2.2.2.2.1 a0.2.2.2.2.2.2.2.1 a0.2.2.2.2.2.2.2.2)) (exC x_spec_l24Ok_7
          (fun e293 =>
           kx (e293.1.2.1.1 : Bool), fun e309 =>
           Option.bind (g_spec_l02Point (((e309.2.1.1.2.2.2.2.1 : Int), ((e309.2.1.1.2.2.2.2.2.1 : Int), (e309.2.1.1.2.2.2.2.2.2.1 : Int))), ((e309.2.1.1.2.2.2.2.2.2.2.1 : Int), ((e309.2.1.1.2.2.2.2.2.2.2.2.1 : Int), (e309.2.1.1.2.2.2.2.2.2.2.2.2.1 : Int))))) fun y324 =>
           cond y324
           (Option.bind (g_spec_l02Line ((e309.2.1.1.2.2.2.2.2.2.2.2.2.2.1 : Int), ((e309.2.1.1.2.2.2.2.2.2.2.2.2.2.2.1 : Int), ((e309.2.1.1.2.2.2.2.2.2.2.2.2.2.2.2.1 : Int), (e309.2.1.1.2.2.2.2.2.2.2.2.2.2.2.2.2.1 : Int))))) fun y325 =>
            kx y325)
           (kx Bool.false), ()))))
        (Option.bind (w_spec_l24Ok_7 (m_spec_l24Ok_7 (0 : Int) a0.1 a0.2.1 a0.2.2.1 a0.2.2.2.1 a0.2.2.2.2.1.1.1 a0.2.2.2.2.1.1.2.1 a0.2.2.2.2.1.1.2.2 a0.2.2.2.2.1.2.1 a0.2.2.2.2.1.2.2.1 a0.2.2.2.2.1.2.2.2 a0.2.2.2.2.2.1 a0.2.2.2.2.2.2.1 a0.2.2.2.2.2.2.2.1 a0.2.2.2.2.2.2.2.2)) (exC x_spec_l24Ok_7
         (fun e326 =>
          kx (e326.1.2.1.1 : Bool), fun e342 =>
          Option.bind (g_spec_l02Point (((e342.2.1.1.2.2.2.2.1 : Int), ((e342.2.1.1.2.2.2.2.2.1 : Int), (e342.2.1.1.2.2.2.2.2.2.1 : Int))), ((e342.2.1.1.2.2.2.2.2.2.2.1 : Int), ((e342.2.1.1.2.2.2.2.2.2.2.2.1 : Int), (e342.2.1.1.2.2.2.2.2.2.2.2.2.1 : Int))))) fun y357 =>
          cond y357
          (Option.bind (g_spec_l02Line ((e342.2.1.1.2.2.2.2.2.2.2.2.2.2.1 : Int), ((e342.2.1.1.2.2.2.2.2.2.2.2.2.2.2.1 : Int), ((e342.2.1.1.2.2.2.2.2.2.2.2.2.2.2.2.1 : Int), (e342.2.1.1.2.2.2.2.2.2.2.2.2.2.2.2.2.1 : Int))))) fun y358 =>
           kx y358)
          (kx Bool.false), ())))))))))
noncomputable def g_spec_l24Ok (a0 : (ByteArray × (Int × ((List ByteArray) × (Int × (((Int × (Int × Int)) × (Int × (Int × Int))) × (Int × (Int × (Int × Int))))))))) : Option (Bool) := t_spec_l24Ok some a0
theorem nat_spec_l24Ok {R : Type} (kx : Bool → Option R) (a0 : (ByteArray × (Int × ((List ByteArray) × (Int × (((Int × (Int × Int)) × (Int × (Int × Int))) × (Int × (Int × (Int × Int))))))))) : t_spec_l24Ok kx a0 = (g_spec_l24Ok a0).bind kx := by
  unfold g_spec_l24Ok t_spec_l24Ok
  exact nat_bind fun _ => nat_cond (rfl) (nat_bind fun _ => nat_cond (rfl) (nat_bind fun _ => nat_cond (rfl) (nat_bind fun _ => nat_cond (rfl) (nat_bind fun _ => nat_cond (nat_cond (rfl) (nat_cond (nat_cond (rfl) (nat_cond (nat_cond (rfl) (nat_exC ⟨fun _ => rfl, fun _ => nat_bind fun _ => nat_cond (nat_bind fun _ => rfl) (rfl), trivial⟩)) (nat_exC ⟨fun _ => rfl, fun _ => nat_bind fun _ => nat_cond (nat_bind fun _ => rfl) (rfl), trivial⟩))) (nat_cond (nat_cond (rfl) (nat_exC ⟨fun _ => rfl, fun _ => nat_bind fun _ => nat_cond (nat_bind fun _ => rfl) (rfl), trivial⟩)) (nat_exC ⟨fun _ => rfl, fun _ => nat_bind fun _ => nat_cond (nat_bind fun _ => rfl) (rfl), trivial⟩)))) (nat_cond (nat_cond (rfl) (nat_cond (nat_cond (rfl) (nat_exC ⟨fun _ => rfl, fun _ => nat_bind fun _ => nat_cond (nat_bind fun _ => rfl) (rfl), trivial⟩)) (nat_exC ⟨fun _ => rfl, fun _ => nat_bind fun _ => nat_cond (nat_bind fun _ => rfl) (rfl), trivial⟩))) (nat_cond (nat_cond (rfl) (nat_exC ⟨fun _ => rfl, fun _ => nat_bind fun _ => nat_cond (nat_bind fun _ => rfl) (rfl), trivial⟩)) (nat_exC ⟨fun _ => rfl, fun _ => nat_bind fun _ => nat_cond (nat_bind fun _ => rfl) (rfl), trivial⟩)))))))
abbrev as_spec_l24Ok : List AX := [.ptr (.pair .str (.pair (.int .i64) (.pair (.slice .str) (.pair (.int .i64) (.pair (.pair (.pair (.int .i64) (.pair (.int .i64) (.int .i64))) (.pair (.int .i64) (.pair (.int .i64) (.int .i64)))) (.pair (.int .i64) (.pair (.int .i64) (.pair (.int .i64) (.int .i64)))))))))]
abbrev en_spec_l24Ok : Bool → AV × List CV := fun b => (.one ⟨false, [(.v (.bool b))]⟩, [])
noncomputable abbrev k_spec_l24Ok : Contract := .fx as_spec_l24Ok (Bool) (fun z => g_spec_l24Ok z.1) en_spec_l24Ok
theorem r_spec_l24Ok (z : argsX as_spec_l24Ok) : runF (tab C0 T_spec_l24Ok) h_spec_l24Ok 1 Tryd.f43 (lentOf as_spec_l24Ok) (xBoxes as_spec_l24Ok z) (xVals as_spec_l24Ok 0 z) K2 = t_spec_l24Ok (fun b => some (en_spec_l24Ok b)) z.1 := by kernel_rfl
theorem so_spec_l24Ok : Sound C0 43 k_spec_l24Ok :=
  Sound.fx a_spec_l24Ok mixed Tryd.func43 (by kernel_rfl) (by kernel_rfl) h_spec_l24Ok 1 hs_spec_l24Ok (fun z => (r_spec_l24Ok z).trans (nat_spec_l24Ok _ z.1))

/-! ### F94 spec.l24Words -/
noncomputable def T_spec_l24Words : List (FuncId × Contract) := []
theorem a_spec_l24Words : AllSound C0 T_spec_l24Words := .nil
noncomputable def t_spec_l24Words {R : Type} (kx : (List ByteArray) → Option R) : Option R :=
  kx [(ByteArray.mk (Array.mk [])), (ByteArray.mk (Array.mk [112, 111, 105, 110, 116])), (ByteArray.mk (Array.mk [108, 105, 110, 101])), (ByteArray.mk (Array.mk [109, 101, 101, 116])), (ByteArray.mk (Array.mk [109, 105, 100, 100, 108, 101])), (ByteArray.mk (Array.mk [109, 105, 114, 114, 111, 114])), (ByteArray.mk (Array.mk [116, 104, 114, 111, 117, 103, 104])), (ByteArray.mk (Array.mk [111, 110, 116, 111])), (ByteArray.mk (Array.mk [98, 105, 115, 101, 99, 116])), (ByteArray.mk (Array.mk [115, 113, 117, 97, 114, 101])), (ByteArray.mk (Array.mk [102, 111, 108, 100])), (ByteArray.mk (Array.mk [116, 119, 111])), (ByteArray.mk (Array.mk [97, 99, 114, 111, 115, 115]))]
noncomputable def g_spec_l24Words : Option ((List ByteArray)) := t_spec_l24Words some
theorem nat_spec_l24Words {R : Type} (kx : (List ByteArray) → Option R) : t_spec_l24Words kx = (g_spec_l24Words).bind kx := by
  unfold g_spec_l24Words t_spec_l24Words
  exact rfl
abbrev as_spec_l24Words : List AX := []
abbrev en_spec_l24Words : (List ByteArray) → AV × List CV := fun b => (.one ⟨false, [(.own .str b)]⟩, [])
noncomputable abbrev k_spec_l24Words : Contract := .fx as_spec_l24Words ((List ByteArray)) (fun z => g_spec_l24Words) en_spec_l24Words
theorem r_spec_l24Words (z : argsX as_spec_l24Words) : runF (tab C0 T_spec_l24Words) noHints 1 Tryd.f94 (lentOf as_spec_l24Words) (xBoxes as_spec_l24Words z) (xVals as_spec_l24Words 0 z) K2 = t_spec_l24Words (fun b => some (en_spec_l24Words b)) := by kernel_rfl
theorem so_spec_l24Words : Sound C0 94 k_spec_l24Words :=
  Sound.fx a_spec_l24Words mixed Tryd.func94 (by kernel_rfl) (by kernel_rfl) noHints 1 noHints_ok (fun z => (r_spec_l24Words z).trans (nat_spec_l24Words _))

def S_spec_l01Dec : Type := (Int) → Option (ByteArray)
noncomputable def self_spec_l01Dec [Inhabited S_spec_l01Dec] : (Int) → Option (ByteArray) := (default : S_spec_l01Dec)
noncomputable abbrev k_self_spec_l01Dec [Inhabited S_spec_l01Dec] : Contract := .fx [.val false (.int .i64)] (ByteArray) (fun z => self_spec_l01Dec z.1) (fun b => (.one ⟨false, [(.v (.string b))]⟩, []))
/-! ### F97 spec.l01Dec -/
noncomputable def T_spec_l01Dec_r [Inhabited S_spec_l01Dec] : List (FuncId × Contract) := [(97, k_self_spec_l01Dec)]
theorem a_spec_l01Dec_r [Inhabited S_spec_l01Dec] (hself : Sound C0 97 k_self_spec_l01Dec) : AllSound C0 T_spec_l01Dec_r := .cons hself (.nil)
noncomputable def t_spec_l01Dec_r [Inhabited S_spec_l01Dec] {R : Type} (kx : ByteArray → Option R) (a0 : Int) : Option R :=
  cond (decide (a0 < (0 : Int)))
  (cond (decide (a0 > (-(10 : Int))))
   (Option.bind (self_spec_l01Dec (IntKind.wrap IntKind.i64 ((0 : Int) - a0))) fun y366 =>
    cond (decide (((((ByteArray.size (ByteArray.mk (Array.mk [45]))) + (ByteArray.size y366)) : Nat) : Int) > (if (Bool.true = Bool.true) then (((2 : Int) ^ (64 - 1)) - (1 : Int)) else (((2 : Int) ^ 64) - (1 : Int)))))
    (none)
    (kx ((ByteArray.mk (Array.mk [45])) ++ y366)))
   (cond (decide (a0 < (0 : Int)))
    (Option.bind (self_spec_l01Dec (IntKind.wrap IntKind.i64 (Int.tdiv a0 (10 : Int)))) fun y367 =>
     Option.bind (self_spec_l01Dec (IntKind.wrap IntKind.i64 ((0 : Int) - (Int.tmod a0 (10 : Int))))) fun y368 =>
     cond (decide (((((ByteArray.size y367) + (ByteArray.size y368)) : Nat) : Int) > (if (Bool.true = Bool.true) then (((2 : Int) ^ (64 - 1)) - (1 : Int)) else (((2 : Int) ^ 64) - (1 : Int)))))
     (none)
     (kx (y367 ++ y368)))
    (cond (decide (a0 < (10 : Int)))
     (kx (ByteArray.mk (Array.mk [(UInt8.ofNat (Int.toNat (IntKind.wrap IntKind.u8 (IntKind.wrap IntKind.i64 ((48 : Int) + a0)))))])))
     (Option.bind (self_spec_l01Dec (IntKind.wrap IntKind.i64 (Int.tdiv a0 (10 : Int)))) fun y369 =>
      cond (decide (((((ByteArray.size y369) + (ByteArray.size (ByteArray.mk (Array.mk [(UInt8.ofNat (Int.toNat (IntKind.wrap IntKind.u8 (IntKind.wrap IntKind.i64 ((48 : Int) + (Int.tmod a0 (10 : Int)))))))])))) : Nat) : Int) > (if (Bool.true = Bool.true) then (((2 : Int) ^ (64 - 1)) - (1 : Int)) else (((2 : Int) ^ 64) - (1 : Int)))))
      (none)
      (kx (y369 ++ (ByteArray.mk (Array.mk [(UInt8.ofNat (Int.toNat (IntKind.wrap IntKind.u8 (IntKind.wrap IntKind.i64 ((48 : Int) + (Int.tmod a0 (10 : Int)))))))]))))))))
  (cond (decide (a0 < (0 : Int)))
   (Option.bind (self_spec_l01Dec (IntKind.wrap IntKind.i64 (Int.tdiv a0 (10 : Int)))) fun y370 =>
    Option.bind (self_spec_l01Dec (IntKind.wrap IntKind.i64 ((0 : Int) - (Int.tmod a0 (10 : Int))))) fun y371 =>
    cond (decide (((((ByteArray.size y370) + (ByteArray.size y371)) : Nat) : Int) > (if (Bool.true = Bool.true) then (((2 : Int) ^ (64 - 1)) - (1 : Int)) else (((2 : Int) ^ 64) - (1 : Int)))))
    (none)
    (kx (y370 ++ y371)))
   (cond (decide (a0 < (10 : Int)))
    (kx (ByteArray.mk (Array.mk [(UInt8.ofNat (Int.toNat (IntKind.wrap IntKind.u8 (IntKind.wrap IntKind.i64 ((48 : Int) + a0)))))])))
    (Option.bind (self_spec_l01Dec (IntKind.wrap IntKind.i64 (Int.tdiv a0 (10 : Int)))) fun y372 =>
     cond (decide (((((ByteArray.size y372) + (ByteArray.size (ByteArray.mk (Array.mk [(UInt8.ofNat (Int.toNat (IntKind.wrap IntKind.u8 (IntKind.wrap IntKind.i64 ((48 : Int) + (Int.tmod a0 (10 : Int)))))))])))) : Nat) : Int) > (if (Bool.true = Bool.true) then (((2 : Int) ^ (64 - 1)) - (1 : Int)) else (((2 : Int) ^ 64) - (1 : Int)))))
     (none)
     (kx (y372 ++ (ByteArray.mk (Array.mk [(UInt8.ofNat (Int.toNat (IntKind.wrap IntKind.u8 (IntKind.wrap IntKind.i64 ((48 : Int) + (Int.tmod a0 (10 : Int)))))))])))))))
noncomputable def g_spec_l01Dec_r [Inhabited S_spec_l01Dec] (a0 : Int) : Option (ByteArray) := t_spec_l01Dec_r some a0
theorem nat_spec_l01Dec_r [Inhabited S_spec_l01Dec] {R : Type} (kx : ByteArray → Option R) (a0 : Int) : t_spec_l01Dec_r kx a0 = (g_spec_l01Dec_r a0).bind kx := by
  unfold g_spec_l01Dec_r t_spec_l01Dec_r
  exact nat_cond (nat_cond (nat_bind fun _ => nat_cond (rfl) (rfl)) (nat_cond (nat_bind fun _ => nat_bind fun _ => nat_cond (rfl) (rfl)) (nat_cond (rfl) (nat_bind fun _ => nat_cond (rfl) (rfl))))) (nat_cond (nat_bind fun _ => nat_bind fun _ => nat_cond (rfl) (rfl)) (nat_cond (rfl) (nat_bind fun _ => nat_cond (rfl) (rfl))))
abbrev as_spec_l01Dec_r : List AX := [.val false (.int .i64)]
abbrev en_spec_l01Dec_r : ByteArray → AV × List CV := fun b => (.one ⟨false, [(.v (.string b))]⟩, [])
noncomputable abbrev k_spec_l01Dec_r [Inhabited S_spec_l01Dec] : Contract := .fx as_spec_l01Dec_r (ByteArray) (fun z => g_spec_l01Dec_r z.1) en_spec_l01Dec_r
theorem r_spec_l01Dec_r [Inhabited S_spec_l01Dec] (z : argsX as_spec_l01Dec_r) : runF (tab C0 T_spec_l01Dec_r) noHints 1 Tryd.f97 (lentOf as_spec_l01Dec_r) (xBoxes as_spec_l01Dec_r z) (xVals as_spec_l01Dec_r 0 z) K2 = t_spec_l01Dec_r (fun b => some (en_spec_l01Dec_r b)) z.1 := by kernel_rfl
theorem so_spec_l01Dec_r [Inhabited S_spec_l01Dec] (hself : Sound C0 97 k_self_spec_l01Dec) : Sound C0 97 k_spec_l01Dec_r :=
  Sound.fx (a_spec_l01Dec_r hself) mixed Tryd.func97 (by kernel_rfl) (by kernel_rfl) noHints 1 noHints_ok (fun z => (r_spec_l01Dec_r z).trans (nat_spec_l01Dec_r _ z.1))
noncomputable def gN_spec_l01Dec : Nat → S_spec_l01Dec
  | 0 => fun _ => none
  | n + 1 => @g_spec_l01Dec_r ⟨gN_spec_l01Dec n⟩
theorem soN_spec_l01Dec : ∀ n, Sound C0 97 (.fx [.val false (.int .i64)] (ByteArray) (fun z => gN_spec_l01Dec n z.1) (fun b => (.one ⟨false, [(.v (.string b))]⟩, [])))
  | 0 => Sound.never Tryd.func97 (by kernel_rfl) (by kernel_rfl)
  | n + 1 => @so_spec_l01Dec_r ⟨gN_spec_l01Dec n⟩ (soN_spec_l01Dec n)
noncomputable def g_spec_l01Dec : (Int) → Option (ByteArray) := gN_spec_l01Dec 1000
abbrev as_spec_l01Dec : List AX := [.val false (.int .i64)]
abbrev en_spec_l01Dec : ByteArray → AV × List CV := fun b => (.one ⟨false, [(.v (.string b))]⟩, [])
noncomputable abbrev k_spec_l01Dec : Contract := .fx as_spec_l01Dec (ByteArray) (fun z => g_spec_l01Dec z.1) en_spec_l01Dec
theorem so_spec_l01Dec : Sound C0 97 k_spec_l01Dec := soN_spec_l01Dec 1000

/-! ### F142 spec.l01Text -/
noncomputable def T_spec_l01Text : List (FuncId × Contract) := [(97, k_spec_l01Dec)]
theorem a_spec_l01Text : AllSound C0 T_spec_l01Text := .cons so_spec_l01Dec (.nil)
noncomputable def t_spec_l01Text {R : Type} (kx : ByteArray → Option R) (a0 : (Int × (Int × Int))) : Option R :=
  cond (a0.2.1 == (0 : Int))
  (Option.bind (g_spec_l01Dec a0.1) fun y373 =>
   cond (a0.2.2 == (0 : Int))
   (kx y373)
   (cond (a0.1 != (0 : Int))
    (cond (a0.2.1 != (0 : Int))
     (cond (decide (((((ByteArray.size (ByteArray.mk (Array.mk [40]))) + (ByteArray.size y373)) : Nat) : Int) > (if (Bool.true = Bool.true) then (((2 : Int) ^ (64 - 1)) - (1 : Int)) else (((2 : Int) ^ 64) - (1 : Int)))))
      (none)
      (cond (decide (((((ByteArray.size ((ByteArray.mk (Array.mk [40])) ++ y373)) + (ByteArray.size (ByteArray.mk (Array.mk [41])))) : Nat) : Int) > (if (Bool.true = Bool.true) then (((2 : Int) ^ (64 - 1)) - (1 : Int)) else (((2 : Int) ^ 64) - (1 : Int)))))
       (none)
       (cond (decide (((((ByteArray.size (((ByteArray.mk (Array.mk [40])) ++ y373) ++ (ByteArray.mk (Array.mk [41])))) + (ByteArray.size (ByteArray.mk (Array.mk [47])))) : Nat) : Int) > (if (Bool.true = Bool.true) then (((2 : Int) ^ (64 - 1)) - (1 : Int)) else (((2 : Int) ^ 64) - (1 : Int)))))
        (none)
        (cond (decide ((IntKind.wrap IntKind.u64 a0.2.2) < (0 : Int)))
         (none)
         (Option.bind (g_spec_l01Dec (IntKind.wrap IntKind.i64 ((1 : Int) * ((2 : Int) ^ (Min.min (Int.toNat (IntKind.wrap IntKind.u64 a0.2.2)) 64))))) fun y374 =>
          cond (decide (((((ByteArray.size ((((ByteArray.mk (Array.mk [40])) ++ y373) ++ (ByteArray.mk (Array.mk [41]))) ++ (ByteArray.mk (Array.mk [47])))) + (ByteArray.size y374)) : Nat) : Int) > (if (Bool.true = Bool.true) then (((2 : Int) ^ (64 - 1)) - (1 : Int)) else (((2 : Int) ^ 64) - (1 : Int)))))
          (none)
          (kx (((((ByteArray.mk (Array.mk [40])) ++ y373) ++ (ByteArray.mk (Array.mk [41]))) ++ (ByteArray.mk (Array.mk [47]))) ++ y374)))))))
     (cond (decide (((((ByteArray.size y373) + (ByteArray.size (ByteArray.mk (Array.mk [47])))) : Nat) : Int) > (if (Bool.true = Bool.true) then (((2 : Int) ^ (64 - 1)) - (1 : Int)) else (((2 : Int) ^ 64) - (1 : Int)))))
      (none)
      (cond (decide ((IntKind.wrap IntKind.u64 a0.2.2) < (0 : Int)))
       (none)
       (Option.bind (g_spec_l01Dec (IntKind.wrap IntKind.i64 ((1 : Int) * ((2 : Int) ^ (Min.min (Int.toNat (IntKind.wrap IntKind.u64 a0.2.2)) 64))))) fun y375 =>
        cond (decide (((((ByteArray.size (y373 ++ (ByteArray.mk (Array.mk [47])))) + (ByteArray.size y375)) : Nat) : Int) > (if (Bool.true = Bool.true) then (((2 : Int) ^ (64 - 1)) - (1 : Int)) else (((2 : Int) ^ 64) - (1 : Int)))))
        (none)
        (kx ((y373 ++ (ByteArray.mk (Array.mk [47]))) ++ y375))))))
    (cond (decide (((((ByteArray.size y373) + (ByteArray.size (ByteArray.mk (Array.mk [47])))) : Nat) : Int) > (if (Bool.true = Bool.true) then (((2 : Int) ^ (64 - 1)) - (1 : Int)) else (((2 : Int) ^ 64) - (1 : Int)))))
     (none)
     (cond (decide ((IntKind.wrap IntKind.u64 a0.2.2) < (0 : Int)))
      (none)
      (Option.bind (g_spec_l01Dec (IntKind.wrap IntKind.i64 ((1 : Int) * ((2 : Int) ^ (Min.min (Int.toNat (IntKind.wrap IntKind.u64 a0.2.2)) 64))))) fun y376 =>
       cond (decide (((((ByteArray.size (y373 ++ (ByteArray.mk (Array.mk [47])))) + (ByteArray.size y376)) : Nat) : Int) > (if (Bool.true = Bool.true) then (((2 : Int) ^ (64 - 1)) - (1 : Int)) else (((2 : Int) ^ 64) - (1 : Int)))))
       (none)
       (kx ((y373 ++ (ByteArray.mk (Array.mk [47]))) ++ y376)))))))
  (cond (a0.1 == (0 : Int))
   (Option.bind (g_spec_l01Dec a0.2.1) fun y377 =>
    cond (decide (((((ByteArray.size y377) + (ByteArray.size (ByteArray.mk (Array.mk [114])))) : Nat) : Int) > (if (Bool.true = Bool.true) then (((2 : Int) ^ (64 - 1)) - (1 : Int)) else (((2 : Int) ^ 64) - (1 : Int)))))
    (none)
    (cond (a0.2.2 == (0 : Int))
     (kx (y377 ++ (ByteArray.mk (Array.mk [114]))))
     (cond (a0.1 != (0 : Int))
      (cond (a0.2.1 != (0 : Int))
       (cond (decide (((((ByteArray.size (ByteArray.mk (Array.mk [40]))) + (ByteArray.size (y377 ++ (ByteArray.mk (Array.mk [114]))))) : Nat) : Int) > (if (Bool.true = Bool.true) then (((2 : Int) ^ (64 - 1)) - (1 : Int)) else (((2 : Int) ^ 64) - (1 : Int)))))
        (none)
        (cond (decide (((((ByteArray.size ((ByteArray.mk (Array.mk [40])) ++ (y377 ++ (ByteArray.mk (Array.mk [114]))))) + (ByteArray.size (ByteArray.mk (Array.mk [41])))) : Nat) : Int) > (if (Bool.true = Bool.true) then (((2 : Int) ^ (64 - 1)) - (1 : Int)) else (((2 : Int) ^ 64) - (1 : Int)))))
         (none)
         (cond (decide (((((ByteArray.size (((ByteArray.mk (Array.mk [40])) ++ (y377 ++ (ByteArray.mk (Array.mk [114])))) ++ (ByteArray.mk (Array.mk [41])))) + (ByteArray.size (ByteArray.mk (Array.mk [47])))) : Nat) : Int) > (if (Bool.true = Bool.true) then (((2 : Int) ^ (64 - 1)) - (1 : Int)) else (((2 : Int) ^ 64) - (1 : Int)))))
          (none)
          (cond (decide ((IntKind.wrap IntKind.u64 a0.2.2) < (0 : Int)))
           (none)
           (Option.bind (g_spec_l01Dec (IntKind.wrap IntKind.i64 ((1 : Int) * ((2 : Int) ^ (Min.min (Int.toNat (IntKind.wrap IntKind.u64 a0.2.2)) 64))))) fun y378 =>
            cond (decide (((((ByteArray.size ((((ByteArray.mk (Array.mk [40])) ++ (y377 ++ (ByteArray.mk (Array.mk [114])))) ++ (ByteArray.mk (Array.mk [41]))) ++ (ByteArray.mk (Array.mk [47])))) + (ByteArray.size y378)) : Nat) : Int) > (if (Bool.true = Bool.true) then (((2 : Int) ^ (64 - 1)) - (1 : Int)) else (((2 : Int) ^ 64) - (1 : Int)))))
            (none)
            (kx (((((ByteArray.mk (Array.mk [40])) ++ (y377 ++ (ByteArray.mk (Array.mk [114])))) ++ (ByteArray.mk (Array.mk [41]))) ++ (ByteArray.mk (Array.mk [47]))) ++ y378)))))))
       (cond (decide (((((ByteArray.size (y377 ++ (ByteArray.mk (Array.mk [114])))) + (ByteArray.size (ByteArray.mk (Array.mk [47])))) : Nat) : Int) > (if (Bool.true = Bool.true) then (((2 : Int) ^ (64 - 1)) - (1 : Int)) else (((2 : Int) ^ 64) - (1 : Int)))))
        (none)
        (cond (decide ((IntKind.wrap IntKind.u64 a0.2.2) < (0 : Int)))
         (none)
         (Option.bind (g_spec_l01Dec (IntKind.wrap IntKind.i64 ((1 : Int) * ((2 : Int) ^ (Min.min (Int.toNat (IntKind.wrap IntKind.u64 a0.2.2)) 64))))) fun y379 =>
          cond (decide (((((ByteArray.size ((y377 ++ (ByteArray.mk (Array.mk [114]))) ++ (ByteArray.mk (Array.mk [47])))) + (ByteArray.size y379)) : Nat) : Int) > (if (Bool.true = Bool.true) then (((2 : Int) ^ (64 - 1)) - (1 : Int)) else (((2 : Int) ^ 64) - (1 : Int)))))
          (none)
          (kx (((y377 ++ (ByteArray.mk (Array.mk [114]))) ++ (ByteArray.mk (Array.mk [47]))) ++ y379))))))
      (cond (decide (((((ByteArray.size (y377 ++ (ByteArray.mk (Array.mk [114])))) + (ByteArray.size (ByteArray.mk (Array.mk [47])))) : Nat) : Int) > (if (Bool.true = Bool.true) then (((2 : Int) ^ (64 - 1)) - (1 : Int)) else (((2 : Int) ^ 64) - (1 : Int)))))
       (none)
       (cond (decide ((IntKind.wrap IntKind.u64 a0.2.2) < (0 : Int)))
        (none)
        (Option.bind (g_spec_l01Dec (IntKind.wrap IntKind.i64 ((1 : Int) * ((2 : Int) ^ (Min.min (Int.toNat (IntKind.wrap IntKind.u64 a0.2.2)) 64))))) fun y380 =>
         cond (decide (((((ByteArray.size ((y377 ++ (ByteArray.mk (Array.mk [114]))) ++ (ByteArray.mk (Array.mk [47])))) + (ByteArray.size y380)) : Nat) : Int) > (if (Bool.true = Bool.true) then (((2 : Int) ^ (64 - 1)) - (1 : Int)) else (((2 : Int) ^ 64) - (1 : Int)))))
         (none)
         (kx (((y377 ++ (ByteArray.mk (Array.mk [114]))) ++ (ByteArray.mk (Array.mk [47]))) ++ y380))))))))
   (cond (decide (a0.2.1 > (0 : Int)))
    (Option.bind (g_spec_l01Dec a0.1) fun y381 =>
     cond (decide (((((ByteArray.size y381) + (ByteArray.size (ByteArray.mk (Array.mk [43])))) : Nat) : Int) > (if (Bool.true = Bool.true) then (((2 : Int) ^ (64 - 1)) - (1 : Int)) else (((2 : Int) ^ 64) - (1 : Int)))))
     (none)
     (Option.bind (g_spec_l01Dec a0.2.1) fun y382 =>
      cond (decide (((((ByteArray.size (y381 ++ (ByteArray.mk (Array.mk [43])))) + (ByteArray.size y382)) : Nat) : Int) > (if (Bool.true = Bool.true) then (((2 : Int) ^ (64 - 1)) - (1 : Int)) else (((2 : Int) ^ 64) - (1 : Int)))))
      (none)
      (cond (decide (((((ByteArray.size ((y381 ++ (ByteArray.mk (Array.mk [43]))) ++ y382)) + (ByteArray.size (ByteArray.mk (Array.mk [114])))) : Nat) : Int) > (if (Bool.true = Bool.true) then (((2 : Int) ^ (64 - 1)) - (1 : Int)) else (((2 : Int) ^ 64) - (1 : Int)))))
       (none)
       (cond (a0.2.2 == (0 : Int))
        (kx (((y381 ++ (ByteArray.mk (Array.mk [43]))) ++ y382) ++ (ByteArray.mk (Array.mk [114]))))
        (cond (a0.1 != (0 : Int))
         (cond (a0.2.1 != (0 : Int))
          (cond (decide (((((ByteArray.size (ByteArray.mk (Array.mk [40]))) + (ByteArray.size (((y381 ++ (ByteArray.mk (Array.mk [43]))) ++ y382) ++ (ByteArray.mk (Array.mk [114]))))) : Nat) : Int) > (if (Bool.true = Bool.true) then (((2 : Int) ^ (64 - 1)) - (1 : Int)) else (((2 : Int) ^ 64) - (1 : Int)))))
           (none)
           (cond (decide (((((ByteArray.size ((ByteArray.mk (Array.mk [40])) ++ (((y381 ++ (ByteArray.mk (Array.mk [43]))) ++ y382) ++ (ByteArray.mk (Array.mk [114]))))) + (ByteArray.size (ByteArray.mk (Array.mk [41])))) : Nat) : Int) > (if (Bool.true = Bool.true) then (((2 : Int) ^ (64 - 1)) - (1 : Int)) else (((2 : Int) ^ 64) - (1 : Int)))))
            (none)
            (cond (decide (((((ByteArray.size (((ByteArray.mk (Array.mk [40])) ++ (((y381 ++ (ByteArray.mk (Array.mk [43]))) ++ y382) ++ (ByteArray.mk (Array.mk [114])))) ++ (ByteArray.mk (Array.mk [41])))) + (ByteArray.size (ByteArray.mk (Array.mk [47])))) : Nat) : Int) > (if (Bool.true = Bool.true) then (((2 : Int) ^ (64 - 1)) - (1 : Int)) else (((2 : Int) ^ 64) - (1 : Int)))))
             (none)
             (cond (decide ((IntKind.wrap IntKind.u64 a0.2.2) < (0 : Int)))
              (none)
              (Option.bind (g_spec_l01Dec (IntKind.wrap IntKind.i64 ((1 : Int) * ((2 : Int) ^ (Min.min (Int.toNat (IntKind.wrap IntKind.u64 a0.2.2)) 64))))) fun y383 =>
               cond (decide (((((ByteArray.size ((((ByteArray.mk (Array.mk [40])) ++ (((y381 ++ (ByteArray.mk (Array.mk [43]))) ++ y382) ++ (ByteArray.mk (Array.mk [114])))) ++ (ByteArray.mk (Array.mk [41]))) ++ (ByteArray.mk (Array.mk [47])))) + (ByteArray.size y383)) : Nat) : Int) > (if (Bool.true = Bool.true) then (((2 : Int) ^ (64 - 1)) - (1 : Int)) else (((2 : Int) ^ 64) - (1 : Int)))))
               (none)
               (kx (((((ByteArray.mk (Array.mk [40])) ++ (((y381 ++ (ByteArray.mk (Array.mk [43]))) ++ y382) ++ (ByteArray.mk (Array.mk [114])))) ++ (ByteArray.mk (Array.mk [41]))) ++ (ByteArray.mk (Array.mk [47]))) ++ y383)))))))
          (cond (decide (((((ByteArray.size (((y381 ++ (ByteArray.mk (Array.mk [43]))) ++ y382) ++ (ByteArray.mk (Array.mk [114])))) + (ByteArray.size (ByteArray.mk (Array.mk [47])))) : Nat) : Int) > (if (Bool.true = Bool.true) then (((2 : Int) ^ (64 - 1)) - (1 : Int)) else (((2 : Int) ^ 64) - (1 : Int)))))
           (none)
           (cond (decide ((IntKind.wrap IntKind.u64 a0.2.2) < (0 : Int)))
            (none)
            (Option.bind (g_spec_l01Dec (IntKind.wrap IntKind.i64 ((1 : Int) * ((2 : Int) ^ (Min.min (Int.toNat (IntKind.wrap IntKind.u64 a0.2.2)) 64))))) fun y384 =>
             cond (decide (((((ByteArray.size ((((y381 ++ (ByteArray.mk (Array.mk [43]))) ++ y382) ++ (ByteArray.mk (Array.mk [114]))) ++ (ByteArray.mk (Array.mk [47])))) + (ByteArray.size y384)) : Nat) : Int) > (if (Bool.true = Bool.true) then (((2 : Int) ^ (64 - 1)) - (1 : Int)) else (((2 : Int) ^ 64) - (1 : Int)))))
             (none)
             (kx (((((y381 ++ (ByteArray.mk (Array.mk [43]))) ++ y382) ++ (ByteArray.mk (Array.mk [114]))) ++ (ByteArray.mk (Array.mk [47]))) ++ y384))))))
         (cond (decide (((((ByteArray.size (((y381 ++ (ByteArray.mk (Array.mk [43]))) ++ y382) ++ (ByteArray.mk (Array.mk [114])))) + (ByteArray.size (ByteArray.mk (Array.mk [47])))) : Nat) : Int) > (if (Bool.true = Bool.true) then (((2 : Int) ^ (64 - 1)) - (1 : Int)) else (((2 : Int) ^ 64) - (1 : Int)))))
          (none)
          (cond (decide ((IntKind.wrap IntKind.u64 a0.2.2) < (0 : Int)))
           (none)
           (Option.bind (g_spec_l01Dec (IntKind.wrap IntKind.i64 ((1 : Int) * ((2 : Int) ^ (Min.min (Int.toNat (IntKind.wrap IntKind.u64 a0.2.2)) 64))))) fun y385 =>
            cond (decide (((((ByteArray.size ((((y381 ++ (ByteArray.mk (Array.mk [43]))) ++ y382) ++ (ByteArray.mk (Array.mk [114]))) ++ (ByteArray.mk (Array.mk [47])))) + (ByteArray.size y385)) : Nat) : Int) > (if (Bool.true = Bool.true) then (((2 : Int) ^ (64 - 1)) - (1 : Int)) else (((2 : Int) ^ 64) - (1 : Int)))))
            (none)
            (kx (((((y381 ++ (ByteArray.mk (Array.mk [43]))) ++ y382) ++ (ByteArray.mk (Array.mk [114]))) ++ (ByteArray.mk (Array.mk [47]))) ++ y385))))))))))
    (Option.bind (g_spec_l01Dec a0.1) fun y386 =>
     Option.bind (g_spec_l01Dec a0.2.1) fun y387 =>
     cond (decide (((((ByteArray.size y386) + (ByteArray.size y387)) : Nat) : Int) > (if (Bool.true = Bool.true) then (((2 : Int) ^ (64 - 1)) - (1 : Int)) else (((2 : Int) ^ 64) - (1 : Int)))))
     (none)
     (cond (decide (((((ByteArray.size (y386 ++ y387)) + (ByteArray.size (ByteArray.mk (Array.mk [114])))) : Nat) : Int) > (if (Bool.true = Bool.true) then (((2 : Int) ^ (64 - 1)) - (1 : Int)) else (((2 : Int) ^ 64) - (1 : Int)))))
      (none)
      (cond (a0.2.2 == (0 : Int))
       (kx ((y386 ++ y387) ++ (ByteArray.mk (Array.mk [114]))))
       (cond (a0.1 != (0 : Int))
        (cond (a0.2.1 != (0 : Int))
         (cond (decide (((((ByteArray.size (ByteArray.mk (Array.mk [40]))) + (ByteArray.size ((y386 ++ y387) ++ (ByteArray.mk (Array.mk [114]))))) : Nat) : Int) > (if (Bool.true = Bool.true) then (((2 : Int) ^ (64 - 1)) - (1 : Int)) else (((2 : Int) ^ 64) - (1 : Int)))))
          (none)
          (cond (decide (((((ByteArray.size ((ByteArray.mk (Array.mk [40])) ++ ((y386 ++ y387) ++ (ByteArray.mk (Array.mk [114]))))) + (ByteArray.size (ByteArray.mk (Array.mk [41])))) : Nat) : Int) > (if (Bool.true = Bool.true) then (((2 : Int) ^ (64 - 1)) - (1 : Int)) else (((2 : Int) ^ 64) - (1 : Int)))))
           (none)
           (cond (decide (((((ByteArray.size (((ByteArray.mk (Array.mk [40])) ++ ((y386 ++ y387) ++ (ByteArray.mk (Array.mk [114])))) ++ (ByteArray.mk (Array.mk [41])))) + (ByteArray.size (ByteArray.mk (Array.mk [47])))) : Nat) : Int) > (if (Bool.true = Bool.true) then (((2 : Int) ^ (64 - 1)) - (1 : Int)) else (((2 : Int) ^ 64) - (1 : Int)))))
            (none)
            (cond (decide ((IntKind.wrap IntKind.u64 a0.2.2) < (0 : Int)))
             (none)
             (Option.bind (g_spec_l01Dec (IntKind.wrap IntKind.i64 ((1 : Int) * ((2 : Int) ^ (Min.min (Int.toNat (IntKind.wrap IntKind.u64 a0.2.2)) 64))))) fun y388 =>
              cond (decide (((((ByteArray.size ((((ByteArray.mk (Array.mk [40])) ++ ((y386 ++ y387) ++ (ByteArray.mk (Array.mk [114])))) ++ (ByteArray.mk (Array.mk [41]))) ++ (ByteArray.mk (Array.mk [47])))) + (ByteArray.size y388)) : Nat) : Int) > (if (Bool.true = Bool.true) then (((2 : Int) ^ (64 - 1)) - (1 : Int)) else (((2 : Int) ^ 64) - (1 : Int)))))
              (none)
              (kx (((((ByteArray.mk (Array.mk [40])) ++ ((y386 ++ y387) ++ (ByteArray.mk (Array.mk [114])))) ++ (ByteArray.mk (Array.mk [41]))) ++ (ByteArray.mk (Array.mk [47]))) ++ y388)))))))
         (cond (decide (((((ByteArray.size ((y386 ++ y387) ++ (ByteArray.mk (Array.mk [114])))) + (ByteArray.size (ByteArray.mk (Array.mk [47])))) : Nat) : Int) > (if (Bool.true = Bool.true) then (((2 : Int) ^ (64 - 1)) - (1 : Int)) else (((2 : Int) ^ 64) - (1 : Int)))))
          (none)
          (cond (decide ((IntKind.wrap IntKind.u64 a0.2.2) < (0 : Int)))
           (none)
           (Option.bind (g_spec_l01Dec (IntKind.wrap IntKind.i64 ((1 : Int) * ((2 : Int) ^ (Min.min (Int.toNat (IntKind.wrap IntKind.u64 a0.2.2)) 64))))) fun y389 =>
            cond (decide (((((ByteArray.size (((y386 ++ y387) ++ (ByteArray.mk (Array.mk [114]))) ++ (ByteArray.mk (Array.mk [47])))) + (ByteArray.size y389)) : Nat) : Int) > (if (Bool.true = Bool.true) then (((2 : Int) ^ (64 - 1)) - (1 : Int)) else (((2 : Int) ^ 64) - (1 : Int)))))
            (none)
            (kx ((((y386 ++ y387) ++ (ByteArray.mk (Array.mk [114]))) ++ (ByteArray.mk (Array.mk [47]))) ++ y389))))))
        (cond (decide (((((ByteArray.size ((y386 ++ y387) ++ (ByteArray.mk (Array.mk [114])))) + (ByteArray.size (ByteArray.mk (Array.mk [47])))) : Nat) : Int) > (if (Bool.true = Bool.true) then (((2 : Int) ^ (64 - 1)) - (1 : Int)) else (((2 : Int) ^ 64) - (1 : Int)))))
         (none)
         (cond (decide ((IntKind.wrap IntKind.u64 a0.2.2) < (0 : Int)))
          (none)
          (Option.bind (g_spec_l01Dec (IntKind.wrap IntKind.i64 ((1 : Int) * ((2 : Int) ^ (Min.min (Int.toNat (IntKind.wrap IntKind.u64 a0.2.2)) 64))))) fun y390 =>
           cond (decide (((((ByteArray.size (((y386 ++ y387) ++ (ByteArray.mk (Array.mk [114]))) ++ (ByteArray.mk (Array.mk [47])))) + (ByteArray.size y390)) : Nat) : Int) > (if (Bool.true = Bool.true) then (((2 : Int) ^ (64 - 1)) - (1 : Int)) else (((2 : Int) ^ 64) - (1 : Int)))))
           (none)
           (kx ((((y386 ++ y387) ++ (ByteArray.mk (Array.mk [114]))) ++ (ByteArray.mk (Array.mk [47]))) ++ y390)))))))))))
noncomputable def g_spec_l01Text (a0 : (Int × (Int × Int))) : Option (ByteArray) := t_spec_l01Text some a0
theorem nat_spec_l01Text {R : Type} (kx : ByteArray → Option R) (a0 : (Int × (Int × Int))) : t_spec_l01Text kx a0 = (g_spec_l01Text a0).bind kx := by
  unfold g_spec_l01Text t_spec_l01Text
  exact nat_cond (nat_bind fun _ => nat_cond (rfl) (nat_cond (nat_cond (nat_cond (rfl) (nat_cond (rfl) (nat_cond (rfl) (nat_cond (rfl) (nat_bind fun _ => nat_cond (rfl) (rfl)))))) (nat_cond (rfl) (nat_cond (rfl) (nat_bind fun _ => nat_cond (rfl) (rfl))))) (nat_cond (rfl) (nat_cond (rfl) (nat_bind fun _ => nat_cond (rfl) (rfl)))))) (nat_cond (nat_bind fun _ => nat_cond (rfl) (nat_cond (rfl) (nat_cond (nat_cond (nat_cond (rfl) (nat_cond (rfl) (nat_cond (rfl) (nat_cond (rfl) (nat_bind fun _ => nat_cond (rfl) (rfl)))))) (nat_cond (rfl) (nat_cond (rfl) (nat_bind fun _ => nat_cond (rfl) (rfl))))) (nat_cond (rfl) (nat_cond (rfl) (nat_bind fun _ => nat_cond (rfl) (rfl))))))) (nat_cond (nat_bind fun _ => nat_cond (rfl) (nat_bind fun _ => nat_cond (rfl) (nat_cond (rfl) (nat_cond (rfl) (nat_cond (nat_cond (nat_cond (rfl) (nat_cond (rfl) (nat_cond (rfl) (nat_cond (rfl) (nat_bind fun _ => nat_cond (rfl) (rfl)))))) (nat_cond (rfl) (nat_cond (rfl) (nat_bind fun _ => nat_cond (rfl) (rfl))))) (nat_cond (rfl) (nat_cond (rfl) (nat_bind fun _ => nat_cond (rfl) (rfl))))))))) (nat_bind fun _ => nat_bind fun _ => nat_cond (rfl) (nat_cond (rfl) (nat_cond (rfl) (nat_cond (nat_cond (nat_cond (rfl) (nat_cond (rfl) (nat_cond (rfl) (nat_cond (rfl) (nat_bind fun _ => nat_cond (rfl) (rfl)))))) (nat_cond (rfl) (nat_cond (rfl) (nat_bind fun _ => nat_cond (rfl) (rfl))))) (nat_cond (rfl) (nat_cond (rfl) (nat_bind fun _ => nat_cond (rfl) (rfl))))))))))
abbrev as_spec_l01Text : List AX := [.val true (.pair (.int .i64) (.pair (.int .i64) (.int .i64)))]
abbrev en_spec_l01Text : ByteArray → AV × List CV := fun b => (.one ⟨false, [(.v (.string b))]⟩, [])
noncomputable abbrev k_spec_l01Text : Contract := .fx as_spec_l01Text (ByteArray) (fun z => g_spec_l01Text z.1) en_spec_l01Text
theorem r_spec_l01Text (z : argsX as_spec_l01Text) : runF (tab C0 T_spec_l01Text) noHints 1 Tryd.f142 (lentOf as_spec_l01Text) (xBoxes as_spec_l01Text z) (xVals as_spec_l01Text 0 z) K2 = t_spec_l01Text (fun b => some (en_spec_l01Text b)) z.1 := by kernel_rfl
theorem so_spec_l01Text : Sound C0 142 k_spec_l01Text :=
  Sound.fx a_spec_l01Text mixed Tryd.func142 (by kernel_rfl) (by kernel_rfl) noHints 1 noHints_ok (fun z => (r_spec_l01Text z).trans (nat_spec_l01Text _ z.1))

/-! ### F95 spec.l02Text -/
noncomputable def T_spec_l02Text : List (FuncId × Contract) := [(142, k_spec_l01Text)]
theorem a_spec_l02Text : AllSound C0 T_spec_l02Text := .cons so_spec_l01Text (.nil)
noncomputable def t_spec_l02Text {R : Type} (kx : ByteArray → Option R) (a0 : ((Int × (Int × Int)) × (Int × (Int × Int)))) : Option R :=
  Option.bind (g_spec_l01Text a0.1) fun y391 =>
  cond (decide (((((ByteArray.size (ByteArray.mk (Array.mk [40]))) + (ByteArray.size y391)) : Nat) : Int) > (if (Bool.true = Bool.true) then (((2 : Int) ^ (64 - 1)) - (1 : Int)) else (((2 : Int) ^ 64) - (1 : Int)))))
  (none)
  (cond (decide (((((ByteArray.size ((ByteArray.mk (Array.mk [40])) ++ y391)) + (ByteArray.size (ByteArray.mk (Array.mk [44])))) : Nat) : Int) > (if (Bool.true = Bool.true) then (((2 : Int) ^ (64 - 1)) - (1 : Int)) else (((2 : Int) ^ 64) - (1 : Int)))))
   (none)
   (Option.bind (g_spec_l01Text a0.2) fun y392 =>
    cond (decide (((((ByteArray.size (((ByteArray.mk (Array.mk [40])) ++ y391) ++ (ByteArray.mk (Array.mk [44])))) + (ByteArray.size y392)) : Nat) : Int) > (if (Bool.true = Bool.true) then (((2 : Int) ^ (64 - 1)) - (1 : Int)) else (((2 : Int) ^ 64) - (1 : Int)))))
    (none)
    (cond (decide (((((ByteArray.size ((((ByteArray.mk (Array.mk [40])) ++ y391) ++ (ByteArray.mk (Array.mk [44]))) ++ y392)) + (ByteArray.size (ByteArray.mk (Array.mk [41])))) : Nat) : Int) > (if (Bool.true = Bool.true) then (((2 : Int) ^ (64 - 1)) - (1 : Int)) else (((2 : Int) ^ 64) - (1 : Int)))))
     (none)
     (kx (((((ByteArray.mk (Array.mk [40])) ++ y391) ++ (ByteArray.mk (Array.mk [44]))) ++ y392) ++ (ByteArray.mk (Array.mk [41])))))))
noncomputable def g_spec_l02Text (a0 : ((Int × (Int × Int)) × (Int × (Int × Int)))) : Option (ByteArray) := t_spec_l02Text some a0
theorem nat_spec_l02Text {R : Type} (kx : ByteArray → Option R) (a0 : ((Int × (Int × Int)) × (Int × (Int × Int)))) : t_spec_l02Text kx a0 = (g_spec_l02Text a0).bind kx := by
  unfold g_spec_l02Text t_spec_l02Text
  exact nat_bind fun _ => nat_cond (rfl) (nat_cond (rfl) (nat_bind fun _ => nat_cond (rfl) (nat_cond (rfl) (rfl))))
abbrev as_spec_l02Text : List AX := [.val true (.pair (.pair (.int .i64) (.pair (.int .i64) (.int .i64))) (.pair (.int .i64) (.pair (.int .i64) (.int .i64))))]
abbrev en_spec_l02Text : ByteArray → AV × List CV := fun b => (.one ⟨false, [(.v (.string b))]⟩, [])
noncomputable abbrev k_spec_l02Text : Contract := .fx as_spec_l02Text (ByteArray) (fun z => g_spec_l02Text z.1) en_spec_l02Text
theorem r_spec_l02Text (z : argsX as_spec_l02Text) : runF (tab C0 T_spec_l02Text) noHints 1 Tryd.f95 (lentOf as_spec_l02Text) (xBoxes as_spec_l02Text z) (xVals as_spec_l02Text 0 z) K2 = t_spec_l02Text (fun b => some (en_spec_l02Text b)) z.1 := by kernel_rfl
theorem so_spec_l02Text : Sound C0 95 k_spec_l02Text :=
  Sound.fx a_spec_l02Text mixed Tryd.func95 (by kernel_rfl) (by kernel_rfl) noHints 1 noHints_ok (fun z => (r_spec_l02Text z).trans (nat_spec_l02Text _ z.1))

/-! ### F96 spec.LineText -/
noncomputable def T_spec_LineText : List (FuncId × Contract) := [(87, k_spec_l02Line), (97, k_spec_l01Dec), (142, k_spec_l01Text)]
theorem a_spec_LineText : AllSound C0 T_spec_LineText := .cons so_spec_l02Line (.cons so_spec_l01Dec (.cons so_spec_l01Text (.nil)))
noncomputable def t_spec_LineText {R : Type} (kx : ByteArray → Option R) (a0 : (Int × (Int × (Int × Int)))) : Option R :=
  Option.bind (g_spec_l02Line a0) fun y395 =>
  cond (!y395)
  (kx (ByteArray.mk (Array.mk [])))
  (Option.bind (g_spec_l01Dec a0.1) fun y396 =>
   cond (decide (((((ByteArray.size y396) + (ByteArray.size (ByteArray.mk (Array.mk [64])))) : Nat) : Int) > (if (Bool.true = Bool.true) then (((2 : Int) ^ (64 - 1)) - (1 : Int)) else (((2 : Int) ^ 64) - (1 : Int)))))
   (none)
   (Option.bind (g_spec_l01Text a0.2) fun y397 =>
    cond (decide (((((ByteArray.size (y396 ++ (ByteArray.mk (Array.mk [64])))) + (ByteArray.size y397)) : Nat) : Int) > (if (Bool.true = Bool.true) then (((2 : Int) ^ (64 - 1)) - (1 : Int)) else (((2 : Int) ^ 64) - (1 : Int)))))
    (none)
    (kx ((y396 ++ (ByteArray.mk (Array.mk [64]))) ++ y397))))
noncomputable def g_spec_LineText (a0 : (Int × (Int × (Int × Int)))) : Option (ByteArray) := t_spec_LineText some a0
theorem nat_spec_LineText {R : Type} (kx : ByteArray → Option R) (a0 : (Int × (Int × (Int × Int)))) : t_spec_LineText kx a0 = (g_spec_LineText a0).bind kx := by
  unfold g_spec_LineText t_spec_LineText
  exact nat_bind fun _ => nat_cond (rfl) (nat_bind fun _ => nat_cond (rfl) (nat_bind fun _ => nat_cond (rfl) (rfl)))
abbrev as_spec_LineText : List AX := [.val true (.pair (.int .i64) (.pair (.int .i64) (.pair (.int .i64) (.int .i64))))]
abbrev en_spec_LineText : ByteArray → AV × List CV := fun b => (.one ⟨false, [(.v (.string b))]⟩, [])
noncomputable abbrev k_spec_LineText : Contract := .fx as_spec_LineText (ByteArray) (fun z => g_spec_LineText z.1) en_spec_LineText
theorem r_spec_LineText (z : argsX as_spec_LineText) : runF (tab C0 T_spec_LineText) noHints 1 Tryd.f96 (lentOf as_spec_LineText) (xBoxes as_spec_LineText z) (xVals as_spec_LineText 0 z) K2 = t_spec_LineText (fun b => some (en_spec_LineText b)) z.1 := by kernel_rfl
theorem so_spec_LineText : Sound C0 96 k_spec_LineText :=
  Sound.fx a_spec_LineText mixed Tryd.func96 (by kernel_rfl) (by kernel_rfl) noHints 1 noHints_ok (fun z => (r_spec_LineText z).trans (nat_spec_LineText _ z.1))

/-! ### F57 spec.l24Text -/
noncomputable def T_spec_l24Text : List (FuncId × Contract) := [(94, k_spec_l24Words), (95, k_spec_l02Text), (96, k_spec_LineText), (85, k_spec_l24Chooses), (97, k_spec_l01Dec)]
theorem a_spec_l24Text : AllSound C0 T_spec_l24Text := .cons so_spec_l24Words (.cons so_spec_l02Text (.cons so_spec_LineText (.cons so_spec_l24Chooses (.cons so_spec_l01Dec (.nil)))))
abbrev s_spec_l24Text_8 : LS := ⟨[(false, [(.ptr 77 0)]), (false, [.str]), (false, [(.int .i64)])], [(true, [.str, (.int .i64), (.sl .str), (.int .i64), (.int .i64), (.int .i64), (.int .i64), (.int .i64), (.int .i64), (.int .i64), (.int .i64), (.int .i64), (.int .i64), (.int .i64)])], []⟩
abbrev e_spec_l24Text_8_0 : LS := ⟨[(false, [(.ptr 77 0)]), (false, [.str])], [(true, [.str, (.int .i64), (.sl .str), (.int .i64), (.int .i64), (.int .i64), (.int .i64), (.int .i64), (.int .i64), (.int .i64), (.int .i64), (.int .i64), (.int .i64), (.int .i64)])], []⟩
abbrev d_spec_l24Text_8_0 (v0 : ByteArray) (v1 : ByteArray) (v2 : Int) (v3 : List ByteArray) (v4 : Int) (v5 : Int) (v6 : Int) (v7 : Int) (v8 : Int) (v9 : Int) (v10 : Int) (v11 : Int) (v12 : Int) (v13 : Int) (v14 : Int) : e_spec_l24Text_8_0.T := ((((), ()), (v0, ()), ()), ((v1, v2, v3, v4, v5, v6, v7, v8, v9, v10, v11, v12, v13, v14, ()), ()), ())
abbrev x_spec_l24Text_8 : List (Ex × LS) := [(.exit 0, e_spec_l24Text_8_0)]
abbrev m_spec_l24Text_8 (x3 : ByteArray) (x4 : Int) (b0_0 : ByteArray) (b0_1 : Int) (b0_2 : List ByteArray) (b0_3 : Int) (b0_4 : Int) (b0_5 : Int) (b0_6 : Int) (b0_7 : Int) (b0_8 : Int) (b0_9 : Int) (b0_10 : Int) (b0_11 : Int) (b0_12 : Int) (b0_13 : Int) : s_spec_l24Text_8.T := ((((), ()), (x3, ()), (x4, ()), ()), ((b0_0, b0_1, b0_2, b0_3, b0_4, b0_5, b0_6, b0_7, b0_8, b0_9, b0_10, b0_11, b0_12, b0_13, ()), ()), ())
noncomputable def u_spec_l24Text_8 {R : Type} (nx : s_spec_l24Text_8.T → Option R) (hx : exH R x_spec_l24Text_8) (x3 : ByteArray) (x4 : Int) (b0_0 : ByteArray) (b0_1 : Int) (b0_2 : List ByteArray) (b0_3 : Int) (b0_4 : Int) (b0_5 : Int) (b0_6 : Int) (b0_7 : Int) (b0_8 : Int) (b0_9 : Int) (b0_10 : Int) (b0_11 : Int) (b0_12 : Int) (b0_13 : Int) : Option R :=
  cond (decide (x4 < (((List.length b0_2) : Nat) : Int)))
  (Option.bind (idx b0_2 x4) fun y415 =>
   cond (decide (((((ByteArray.size (ByteArray.mk (Array.mk [32]))) + (ByteArray.size y415)) : Nat) : Int) > (if (Bool.true = Bool.true) then (((2 : Int) ^ (64 - 1)) - (1 : Int)) else (((2 : Int) ^ 64) - (1 : Int)))))
   (none)
   (cond (decide (((((ByteArray.size x3) + (ByteArray.size ((ByteArray.mk (Array.mk [32])) ++ y415))) : Nat) : Int) > (if (Bool.true = Bool.true) then (((2 : Int) ^ (64 - 1)) - (1 : Int)) else (((2 : Int) ^ 64) - (1 : Int)))))
    (none)
    (nx (m_spec_l24Text_8 (x3 ++ ((ByteArray.mk (Array.mk [32])) ++ y415)) (IntKind.wrap IntKind.i64 (x4 + (1 : Int))) b0_0 b0_1 b0_2 b0_3 b0_4 b0_5 b0_6 b0_7 b0_8 b0_9 b0_10 b0_11 b0_12 b0_13))))
  (hx.1 (d_spec_l24Text_8_0 x3 b0_0 b0_1 b0_2 b0_3 b0_4 b0_5 b0_6 b0_7 b0_8 b0_9 b0_10 b0_11 b0_12 b0_13))
noncomputable def t_spec_l24Text_8 {R : Type} (nx : s_spec_l24Text_8.T → Option R) (hx : exH R x_spec_l24Text_8) (z : s_spec_l24Text_8.T) : Option R := u_spec_l24Text_8 nx hx z.1.2.1.1 z.1.2.2.1.1 z.2.1.1.1 z.2.1.1.2.1 z.2.1.1.2.2.1 z.2.1.1.2.2.2.1 z.2.1.1.2.2.2.2.1 z.2.1.1.2.2.2.2.2.1 z.2.1.1.2.2.2.2.2.2.1 z.2.1.1.2.2.2.2.2.2.2.1 z.2.1.1.2.2.2.2.2.2.2.2.1 z.2.1.1.2.2.2.2.2.2.2.2.2.1 z.2.1.1.2.2.2.2.2.2.2.2.2.2.1 z.2.1.1.2.2.2.2.2.2.2.2.2.2.2.1 z.2.1.1.2.2.2.2.2.2.2.2.2.2.2.2.1 z.2.1.1.2.2.2.2.2.2.2.2.2.2.2.2.2.1
theorem nat_spec_l24Text_8 : Natural @t_spec_l24Text_8 := fun R nx hx z => by
  show u_spec_l24Text_8 nx hx z.1.2.1.1 z.1.2.2.1.1 z.2.1.1.1 z.2.1.1.2.1 z.2.1.1.2.2.1 z.2.1.1.2.2.2.1 z.2.1.1.2.2.2.2.1 z.2.1.1.2.2.2.2.2.1 z.2.1.1.2.2.2.2.2.2.1 z.2.1.1.2.2.2.2.2.2.2.1 z.2.1.1.2.2.2.2.2.2.2.2.1 z.2.1.1.2.2.2.2.2.2.2.2.2.1 z.2.1.1.2.2.2.2.2.2.2.2.2.2.1 z.2.1.1.2.2.2.2.2.2.2.2.2.2.2.1 z.2.1.1.2.2.2.2.2.2.2.2.2.2.2.2.1 z.2.1.1.2.2.2.2.2.2.2.2.2.2.2.2.2.1 = (u_spec_l24Text_8 (fun y => some (.inl y)) (hIn x_spec_l24Text_8 fun x => some (.inr x)) z.1.2.1.1 z.1.2.2.1.1 z.2.1.1.1 z.2.1.1.2.1 z.2.1.1.2.2.1 z.2.1.1.2.2.2.1 z.2.1.1.2.2.2.2.1 z.2.1.1.2.2.2.2.2.1 z.2.1.1.2.2.2.2.2.2.1 z.2.1.1.2.2.2.2.2.2.2.1 z.2.1.1.2.2.2.2.2.2.2.2.1 z.2.1.1.2.2.2.2.2.2.2.2.2.1 z.2.1.1.2.2.2.2.2.2.2.2.2.2.1 z.2.1.1.2.2.2.2.2.2.2.2.2.2.2.1 z.2.1.1.2.2.2.2.2.2.2.2.2.2.2.2.1 z.2.1.1.2.2.2.2.2.2.2.2.2.2.2.2.2.1).bind (goOn nx hx)
  unfold u_spec_l24Text_8
  exact nat_cond (nat_bind fun _ => nat_cond (rfl) (nat_cond (rfl) (rfl))) (rfl)
noncomputable def w_spec_l24Text_8 : s_spec_l24Text_8.T → Option (exT x_spec_l24Text_8) := wOf @t_spec_l24Text_8
theorem wq_spec_l24Text_8 (x3 : ByteArray) (x4 : Int) (b0_0 : ByteArray) (b0_1 : Int) (b0_2 : List ByteArray) (b0_3 : Int) (b0_4 : Int) (b0_5 : Int) (b0_6 : Int) (b0_7 : Int) (b0_8 : Int) (b0_9 : Int) (b0_10 : Int) (b0_11 : Int) (b0_12 : Int) (b0_13 : Int) : w_spec_l24Text_8 (m_spec_l24Text_8 x3 x4 b0_0 b0_1 b0_2 b0_3 b0_4 b0_5 b0_6 b0_7 b0_8 b0_9 b0_10 b0_11 b0_12 b0_13) = u_spec_l24Text_8 w_spec_l24Text_8 (hIn x_spec_l24Text_8 some) x3 x4 b0_0 b0_1 b0_2 b0_3 b0_4 b0_5 b0_6 b0_7 b0_8 b0_9 b0_10 b0_11 b0_12 b0_13 := wOf_eq nat_spec_l24Text_8 _
def lh_spec_l24Text_8 : LoopHint := ⟨[0, 3, 4], [77], [0, 3], [77]⟩
noncomputable def h_spec_l24Text : Hints Rv := ⟨fun k => match k with | 8 => lh_spec_l24Text_8 | _ => ⟨[], [], [], []⟩, fun k => match k with | 8 => some (loopX s_spec_l24Text_8 x_spec_l24Text_8 w_spec_l24Text_8) | _ => none⟩
theorem st_spec_l24Text_8 (n : Nat) (z : s_spec_l24Text_8.T) (k : Ex → Live → Option Rv) : loopN ⟨77, 78⟩ lh_spec_l24Text_8 (den (tab C0 T_spec_l24Text) ⟨77, 78⟩ h_spec_l24Text 1 (loopOf Tryd.f57 7)) (n + 1) (s_spec_l24Text_8.enc z) k =
    t_spec_l24Text_8 (fun y => loopN ⟨77, 78⟩ lh_spec_l24Text_8 (den (tab C0 T_spec_l24Text) ⟨77, 78⟩ h_spec_l24Text 1 (loopOf Tryd.f57 7)) n (s_spec_l24Text_8.enc y) k) (hK k x_spec_l24Text_8) z := by kernel_rfl
theorem hs_spec_l24Text : HintsOk (tab C0 T_spec_l24Text) ⟨77, 78⟩ h_spec_l24Text 1 (loops (codeOf Tryd.f57)) := by
  have hl : loops (codeOf Tryd.f57) = [loopOf Tryd.f57 7] := by kernel_rfl
  rw [hl]
  exact HintsOk.cons (n := 8) (lh := lh_spec_l24Text_8) (S := loopX s_spec_l24Text_8 x_spec_l24Text_8 w_spec_l24Text_8) (by kernel_rfl) rfl rfl (loopX_ok nat_spec_l24Text_8 st_spec_l24Text_8)
    (HintsOk.nil)
noncomputable def t_spec_l24Text {R : Type} (kx : ByteArray → Option R) (a0 : (ByteArray × (Int × ((List ByteArray) × (Int × (((Int × (Int × Int)) × (Int × (Int × Int))) × (Int × (Int × (Int × Int))))))))) : Option R :=
  cond (decide (((((ByteArray.size a0.1) + (ByteArray.size (ByteArray.mk (Array.mk [32, 61, 32])))) : Nat) : Int) > (if (Bool.true = Bool.true) then (((2 : Int) ^ (64 - 1)) - (1 : Int)) else (((2 : Int) ^ 64) - (1 : Int)))))
  (none)
  (Option.bind g_spec_l24Words fun y361 =>
   Option.bind (idx y361 a0.2.1) fun y362 =>
   cond (decide (((((ByteArray.size (a0.1 ++ (ByteArray.mk (Array.mk [32, 61, 32])))) + (ByteArray.size y362)) : Nat) : Int) > (if (Bool.true = Bool.true) then (((2 : Int) ^ (64 - 1)) - (1 : Int)) else (((2 : Int) ^ 64) - (1 : Int)))))
   (none)
   (cond (a0.2.1 == (1 : Int))
    (cond (decide (((((ByteArray.size ((a0.1 ++ (ByteArray.mk (Array.mk [32, 61, 32]))) ++ y362)) + (ByteArray.size (ByteArray.mk (Array.mk [32])))) : Nat) : Int) > (if (Bool.true = Bool.true) then (((2 : Int) ^ (64 - 1)) - (1 : Int)) else (((2 : Int) ^ 64) - (1 : Int)))))
     (none)
     (Option.bind (g_spec_l02Text a0.2.2.2.2.1) fun y393 =>
      cond (decide (((((ByteArray.size (((a0.1 ++ (ByteArray.mk (Array.mk [32, 61, 32]))) ++ y362) ++ (ByteArray.mk (Array.mk [32])))) + (ByteArray.size y393)) : Nat) : Int) > (if (Bool.true = Bool.true) then (((2 : Int) ^ (64 - 1)) - (1 : Int)) else (((2 : Int) ^ 64) - (1 : Int)))))
      (none)
      (kx ((((a0.1 ++ (ByteArray.mk (Array.mk [32, 61, 32]))) ++ y362) ++ (ByteArray.mk (Array.mk [32]))) ++ y393))))
    (cond (a0.2.1 == (2 : Int))
     (cond (decide (((((ByteArray.size ((a0.1 ++ (ByteArray.mk (Array.mk [32, 61, 32]))) ++ y362)) + (ByteArray.size (ByteArray.mk (Array.mk [32])))) : Nat) : Int) > (if (Bool.true = Bool.true) then (((2 : Int) ^ (64 - 1)) - (1 : Int)) else (((2 : Int) ^ 64) - (1 : Int)))))
      (none)
      (Option.bind (g_spec_LineText a0.2.2.2.2.2) fun y398 =>
       cond (decide (((((ByteArray.size (((a0.1 ++ (ByteArray.mk (Array.mk [32, 61, 32]))) ++ y362) ++ (ByteArray.mk (Array.mk [32])))) + (ByteArray.size y398)) : Nat) : Int) > (if (Bool.true = Bool.true) then (((2 : Int) ^ (64 - 1)) - (1 : Int)) else (((2 : Int) ^ 64) - (1 : Int)))))
       (none)
       (kx ((((a0.1 ++ (ByteArray.mk (Array.mk [32, 61, 32]))) ++ y362) ++ (ByteArray.mk (Array.mk [32]))) ++ y398))))
     (Option.bind (w_spec_l24Text_8 (m_spec_l24Text_8 ((a0.1 ++ (ByteArray.mk (Array.mk [32, 61, 32]))) ++ y362) (0 : Int) a0.1 a0.2.1 a0.2.2.1 a0.2.2.2.1 a0.2.2.2.2.1.1.1 a0.2.2.2.2.1.1.2.1 a0.2.2.2.2.1.1.2.2 a0.2.2.2.2.1.2.1 a0.2.2.2.2.1.2.2.1 a0.2.2.2.2.1.2.2.2 a0.2.2.2.2.2.1 a0.2.2.2.2.2.2.1 a0.2.2.2.2.2.2.2.1 a0.2.2.2.2.2.2.2.2)) (exC x_spec_l24Text_8
      (fun e416 =>
       Option.bind (g_spec_l24Chooses (e416.2.1.1.2.1 : Int)) fun y432 =>
       cond y432
       (Option.bind (g_spec_l01Dec (e416.2.1.1.2.2.2.1 : Int)) fun y433 =>
        cond (decide (((((ByteArray.size (ByteArray.mk (Array.mk [32]))) + (ByteArray.size y433)) : Nat) : Int) > (if (Bool.true = Bool.true) then (((2 : Int) ^ (64 - 1)) - (1 : Int)) else (((2 : Int) ^ 64) - (1 : Int)))))
        (none)
        (cond (decide (((((ByteArray.size (e416.1.2.1.1 : ByteArray)) + (ByteArray.size ((ByteArray.mk (Array.mk [32])) ++ y433))) : Nat) : Int) > (if (Bool.true = Bool.true) then (((2 : Int) ^ (64 - 1)) - (1 : Int)) else (((2 : Int) ^ 64) - (1 : Int)))))
         (none)
         (kx ((e416.1.2.1.1 : ByteArray) ++ ((ByteArray.mk (Array.mk [32])) ++ y433)))))
       (kx (e416.1.2.1.1 : ByteArray)), ()))))))
noncomputable def g_spec_l24Text (a0 : (ByteArray × (Int × ((List ByteArray) × (Int × (((Int × (Int × Int)) × (Int × (Int × Int))) × (Int × (Int × (Int × Int))))))))) : Option (ByteArray) := t_spec_l24Text some a0
theorem nat_spec_l24Text {R : Type} (kx : ByteArray → Option R) (a0 : (ByteArray × (Int × ((List ByteArray) × (Int × (((Int × (Int × Int)) × (Int × (Int × Int))) × (Int × (Int × (Int × Int))))))))) : t_spec_l24Text kx a0 = (g_spec_l24Text a0).bind kx := by
  unfold g_spec_l24Text t_spec_l24Text
  exact nat_cond (rfl) (nat_bind fun _ => nat_bind fun _ => nat_cond (rfl) (nat_cond (nat_cond (rfl) (nat_bind fun _ => nat_cond (rfl) (rfl))) (nat_cond (nat_cond (rfl) (nat_bind fun _ => nat_cond (rfl) (rfl))) (nat_exC ⟨fun _ => nat_bind fun _ => nat_cond (nat_bind fun _ => nat_cond (rfl) (nat_cond (rfl) (rfl))) (rfl), trivial⟩))))
abbrev as_spec_l24Text : List AX := [.ptr (.pair .str (.pair (.int .i64) (.pair (.slice .str) (.pair (.int .i64) (.pair (.pair (.pair (.int .i64) (.pair (.int .i64) (.int .i64))) (.pair (.int .i64) (.pair (.int .i64) (.int .i64)))) (.pair (.int .i64) (.pair (.int .i64) (.pair (.int .i64) (.int .i64)))))))))]
abbrev en_spec_l24Text : ByteArray → AV × List CV := fun b => (.one ⟨false, [(.v (.string b))]⟩, [])
noncomputable abbrev k_spec_l24Text : Contract := .fx as_spec_l24Text (ByteArray) (fun z => g_spec_l24Text z.1) en_spec_l24Text
theorem r_spec_l24Text (z : argsX as_spec_l24Text) : runF (tab C0 T_spec_l24Text) h_spec_l24Text 1 Tryd.f57 (lentOf as_spec_l24Text) (xBoxes as_spec_l24Text z) (xVals as_spec_l24Text 0 z) K2 = t_spec_l24Text (fun b => some (en_spec_l24Text b)) z.1 := by kernel_rfl
theorem so_spec_l24Text : Sound C0 57 k_spec_l24Text :=
  Sound.fx a_spec_l24Text mixed Tryd.func57 (by kernel_rfl) (by kernel_rfl) h_spec_l24Text 1 hs_spec_l24Text (fun z => (r_spec_l24Text z).trans (nat_spec_l24Text _ z.1))

/-! ### F21 spec.ConstructionText -/
noncomputable def T_spec_ConstructionText : List (FuncId × Contract) := [(43, k_spec_l24Ok), (57, k_spec_l24Text)]
theorem a_spec_ConstructionText : AllSound C0 T_spec_ConstructionText := .cons so_spec_l24Ok (.cons so_spec_l24Text (.nil))
noncomputable def t_spec_ConstructionText {R : Type} (kx : ByteArray → Option R) (a0 : (ByteArray × (Int × ((List ByteArray) × (Int × (((Int × (Int × Int)) × (Int × (Int × Int))) × (Int × (Int × (Int × Int))))))))) : Option R :=
  Option.bind (g_spec_l24Ok a0) fun y359 =>
  cond (!y359)
  (kx (ByteArray.mk (Array.mk [])))
  (Option.bind (g_spec_l24Text a0) fun y434 =>
   kx y434)
noncomputable def g_spec_ConstructionText (a0 : (ByteArray × (Int × ((List ByteArray) × (Int × (((Int × (Int × Int)) × (Int × (Int × Int))) × (Int × (Int × (Int × Int))))))))) : Option (ByteArray) := t_spec_ConstructionText some a0
theorem nat_spec_ConstructionText {R : Type} (kx : ByteArray → Option R) (a0 : (ByteArray × (Int × ((List ByteArray) × (Int × (((Int × (Int × Int)) × (Int × (Int × Int))) × (Int × (Int × (Int × Int))))))))) : t_spec_ConstructionText kx a0 = (g_spec_ConstructionText a0).bind kx := by
  unfold g_spec_ConstructionText t_spec_ConstructionText
  exact nat_bind fun _ => nat_cond (rfl) (nat_bind fun _ => rfl)
abbrev as_spec_ConstructionText : List AX := [.val true (.pair .str (.pair (.int .i64) (.pair (.slice .str) (.pair (.int .i64) (.pair (.pair (.pair (.int .i64) (.pair (.int .i64) (.int .i64))) (.pair (.int .i64) (.pair (.int .i64) (.int .i64)))) (.pair (.int .i64) (.pair (.int .i64) (.pair (.int .i64) (.int .i64)))))))))]
abbrev en_spec_ConstructionText : ByteArray → AV × List CV := fun b => (.one ⟨false, [(.v (.string b))]⟩, [])
noncomputable abbrev k_spec_ConstructionText : Contract := .fx as_spec_ConstructionText (ByteArray) (fun z => g_spec_ConstructionText z.1) en_spec_ConstructionText
theorem r_spec_ConstructionText (z : argsX as_spec_ConstructionText) : runF (tab C0 T_spec_ConstructionText) noHints 1 Tryd.f21 (lentOf as_spec_ConstructionText) (xBoxes as_spec_ConstructionText z) (xVals as_spec_ConstructionText 0 z) K2 = t_spec_ConstructionText (fun b => some (en_spec_ConstructionText b)) z.1 := by kernel_rfl
theorem so_spec_ConstructionText : Sound C0 21 k_spec_ConstructionText :=
  Sound.fx a_spec_ConstructionText mixed Tryd.func21 (by kernel_rfl) (by kernel_rfl) noHints 1 noHints_ok (fun z => (r_spec_ConstructionText z).trans (nat_spec_ConstructionText _ z.1))

/-! ### F48 impl.within -/
noncomputable def T_impl_within : List (FuncId × Contract) := []
theorem a_impl_within : AllSound C0 T_impl_within := .nil
noncomputable def t_impl_within {R : Type} (kx : Bool → Option R) (a0 : Int) (a1 : Int) (a2 : Int) : Option R :=
  cond (decide (a0 ≥ a1))
  (kx (decide (a0 ≤ a2)))
  (kx Bool.false)
noncomputable def g_impl_within (a0 : Int) (a1 : Int) (a2 : Int) : Option (Bool) := t_impl_within some a0 a1 a2
theorem nat_impl_within {R : Type} (kx : Bool → Option R) (a0 : Int) (a1 : Int) (a2 : Int) : t_impl_within kx a0 a1 a2 = (g_impl_within a0 a1 a2).bind kx := by
  unfold g_impl_within t_impl_within
  exact nat_cond (rfl) (rfl)
abbrev as_impl_within : List AX := [.val false (.int .i64), .val false (.int .i64), .val false (.int .i64)]
abbrev en_impl_within : Bool → AV × List CV := fun b => (.one ⟨false, [(.v (.bool b))]⟩, [])
noncomputable abbrev k_impl_within : Contract := .fx as_impl_within (Bool) (fun z => g_impl_within z.1 z.2.1 z.2.2.1) en_impl_within
theorem r_impl_within (z : argsX as_impl_within) : runF (tab C0 T_impl_within) noHints 1 Tryd.f48 (lentOf as_impl_within) (xBoxes as_impl_within z) (xVals as_impl_within 0 z) K2 = t_impl_within (fun b => some (en_impl_within b)) z.1 z.2.1 z.2.2.1 := by kernel_rfl
theorem so_impl_within : Sound C0 48 k_impl_within :=
  Sound.fx a_impl_within mixed Tryd.func48 (by kernel_rfl) (by kernel_rfl) noHints 1 noHints_ok (fun z => (r_impl_within z).trans (nat_impl_within _ z.1 z.2.1 z.2.2.1))

/-! ### F47 impl.IsName -/
noncomputable def T_impl_IsName : List (FuncId × Contract) := [(48, k_impl_within), (89, k_strings_Trim), (90, k_strings_IndexByte)]
theorem a_impl_IsName : AllSound C0 T_impl_IsName := .cons so_impl_within (.cons so_strings_Trim (.cons so_strings_IndexByte (.nil)))
noncomputable def t_impl_IsName {R : Type} (kx : Bool → Option R) (a0 : ByteArray) : Option R :=
  Option.bind (g_impl_within (((ByteArray.size a0) : Nat) : Int) (1 : Int) (12 : Int)) fun y443 =>
  cond y443
  (Option.bind (g_strings_Trim a0 (ByteArray.mk (Array.mk [97, 98, 99, 100, 101, 102, 103, 104, 105, 106, 107, 108, 109, 110, 111, 112, 113, 114, 115, 116, 117, 118, 119, 120, 121, 122, 65, 66, 67, 68, 69, 70, 71, 72, 73, 74, 75, 76, 77, 78, 79, 80, 81, 82, 83, 84, 85, 86, 87, 88, 89, 90, 48, 49, 50, 51, 52, 53, 54, 55, 56, 57, 95]))) fun y444 =>
   cond ((ByteArray.toList y444) == (ByteArray.toList (ByteArray.mk (Array.mk []))))
   (Option.bind (idxB a0 (0 : Int)) fun y445 =>
    Option.bind (g_strings_IndexByte (ByteArray.mk (Array.mk [97, 98, 99, 100, 101, 102, 103, 104, 105, 106, 107, 108, 109, 110, 111, 112, 113, 114, 115, 116, 117, 118, 119, 120, 121, 122, 65, 66, 67, 68, 69, 70, 71, 72, 73, 74, 75, 76, 77, 78, 79, 80, 81, 82, 83, 84, 85, 86, 87, 88, 89, 90])) (((UInt8.toNat y445) : Nat) : Int)) fun y446 =>
    kx (decide (y446 ≥ (0 : Int))))
   (kx Bool.false))
  (kx Bool.false)
noncomputable def g_impl_IsName (a0 : ByteArray) : Option (Bool) := t_impl_IsName some a0
theorem nat_impl_IsName {R : Type} (kx : Bool → Option R) (a0 : ByteArray) : t_impl_IsName kx a0 = (g_impl_IsName a0).bind kx := by
  unfold g_impl_IsName t_impl_IsName
  exact nat_bind fun _ => nat_cond (nat_bind fun _ => nat_cond (nat_bind fun _ => nat_bind fun _ => rfl) (rfl)) (rfl)
abbrev as_impl_IsName : List AX := [.val false .str]
abbrev en_impl_IsName : Bool → AV × List CV := fun b => (.one ⟨false, [(.v (.bool b))]⟩, [])
noncomputable abbrev k_impl_IsName : Contract := .fx as_impl_IsName (Bool) (fun z => g_impl_IsName z.1) en_impl_IsName
theorem r_impl_IsName (z : argsX as_impl_IsName) : runF (tab C0 T_impl_IsName) noHints 1 Tryd.f47 (lentOf as_impl_IsName) (xBoxes as_impl_IsName z) (xVals as_impl_IsName 0 z) K2 = t_impl_IsName (fun b => some (en_impl_IsName b)) z.1 := by kernel_rfl
theorem so_impl_IsName : Sound C0 47 k_impl_IsName :=
  Sound.fx a_impl_IsName mixed Tryd.func47 (by kernel_rfl) (by kernel_rfl) noHints 1 noHints_ok (fun z => (r_impl_IsName z).trans (nat_impl_IsName _ z.1))

/-! ### F50 impl.ValidConstruction$1 -/
noncomputable def T_impl_ValidConstruction_1 : List (FuncId × Contract) := [(47, k_impl_IsName)]
theorem a_impl_ValidConstruction_1 : AllSound C0 T_impl_ValidConstruction_1 := .cons so_impl_IsName (.nil)
noncomputable def t_impl_ValidConstruction_1 {R : Type} (kx : Bool → Option R) (a0 : ByteArray) : Option R :=
  Option.bind (g_impl_IsName a0) fun y457 =>
  kx (!y457)
noncomputable def g_impl_ValidConstruction_1 (a0 : ByteArray) : Option (Bool) := t_impl_ValidConstruction_1 some a0
theorem nat_impl_ValidConstruction_1 {R : Type} (kx : Bool → Option R) (a0 : ByteArray) : t_impl_ValidConstruction_1 kx a0 = (g_impl_ValidConstruction_1 a0).bind kx := by
  unfold g_impl_ValidConstruction_1 t_impl_ValidConstruction_1
  exact nat_bind fun _ => rfl
abbrev as_impl_ValidConstruction_1 : List AX := [.val false .str]
abbrev en_impl_ValidConstruction_1 : Bool → AV × List CV := fun b => (.one ⟨false, [(.v (.bool b))]⟩, [])
noncomputable abbrev k_impl_ValidConstruction_1 : Contract := .fx as_impl_ValidConstruction_1 (Bool) (fun z => g_impl_ValidConstruction_1 z.1) en_impl_ValidConstruction_1
theorem r_impl_ValidConstruction_1 (z : argsX as_impl_ValidConstruction_1) : runF (tab C0 T_impl_ValidConstruction_1) noHints 1 Tryd.f50 (lentOf as_impl_ValidConstruction_1) (xBoxes as_impl_ValidConstruction_1 z) (xVals as_impl_ValidConstruction_1 0 z) K2 = t_impl_ValidConstruction_1 (fun b => some (en_impl_ValidConstruction_1 b)) z.1 := by kernel_rfl
theorem so_impl_ValidConstruction_1 : Sound C0 50 k_impl_ValidConstruction_1 :=
  Sound.fx a_impl_ValidConstruction_1 mixed Tryd.func50 (by kernel_rfl) (by kernel_rfl) noHints 1 noHints_ok (fun z => (r_impl_ValidConstruction_1 z).trans (nat_impl_ValidConstruction_1 _ z.1))

/-! ### F91 slices.IndexFunc[[]string,string] -/
noncomputable def T_slices_IndexFunc_Sstring_string__impl_ValidConstruction_1 : List (FuncId × Contract) := [(50, k_impl_ValidConstruction_1)]
theorem a_slices_IndexFunc_Sstring_string__impl_ValidConstruction_1 : AllSound C0 T_slices_IndexFunc_Sstring_string__impl_ValidConstruction_1 := .cons so_impl_ValidConstruction_1 (.nil)
abbrev s_slices_IndexFunc_Sstring_string__impl_ValidConstruction_1_3 : LS := ⟨[(false, [(.sl .str)]), (false, [(.fn 50 [])]), (false, [(.int .i64)]), (false, [(.int .i64)])], [], []⟩
abbrev e_slices_IndexFunc_Sstring_string__impl_ValidConstruction_1_3_0 : LS := ⟨[(false, [(.int .i64)])], [], []⟩
abbrev d_slices_IndexFunc_Sstring_string__impl_ValidConstruction_1_3_0 (v0 : Int) : e_slices_IndexFunc_Sstring_string__impl_ValidConstruction_1_3_0.T := (((v0, ()), ()), (), ())
abbrev e_slices_IndexFunc_Sstring_string__impl_ValidConstruction_1_3_1 : LS := ⟨[(false, [.undef])], [], []⟩
abbrev d_slices_IndexFunc_Sstring_string__impl_ValidConstruction_1_3_1 : e_slices_IndexFunc_Sstring_string__impl_ValidConstruction_1_3_1.T := ((((), ()), ()), (), ())
abbrev x_slices_IndexFunc_Sstring_string__impl_ValidConstruction_1_3 : List (Ex × LS) := [(.ret, e_slices_IndexFunc_Sstring_string__impl_ValidConstruction_1_3_0), (.exit 0, e_slices_IndexFunc_Sstring_string__impl_ValidConstruction_1_3_1)]
abbrev m_slices_IndexFunc_Sstring_string__impl_ValidConstruction_1_3 (x0 : List ByteArray) (x7 : Int) (x8 : Int) : s_slices_IndexFunc_Sstring_string__impl_ValidConstruction_1_3.T := (((x0, ()), ((), ()), (x7, ()), (x8, ()), ()), (), ())
noncomputable def u_slices_IndexFunc_Sstring_string__impl_ValidConstruction_1_3 {R : Type} (nx : s_slices_IndexFunc_Sstring_string__impl_ValidConstruction_1_3.T → Option R) (hx : exH R x_slices_IndexFunc_Sstring_string__impl_ValidConstruction_1_3) (x0 : List ByteArray) (x7 : Int) (x8 : Int) : Option R :=
  cond (decide (x8 < x7))
  (Option.bind (idx x0 x8) fun y455 =>
   Option.bind (g_impl_ValidConstruction_1 y455) fun y458 =>
   cond y458
   (hx.1 (d_slices_IndexFunc_Sstring_string__impl_ValidConstruction_1_3_0 x8))
   (nx (m_slices_IndexFunc_Sstring_string__impl_ValidConstruction_1_3 x0 x7 (IntKind.wrap IntKind.i64 (x8 + (1 : Int))))))
  (hx.2.1 (d_slices_IndexFunc_Sstring_string__impl_ValidConstruction_1_3_1))
noncomputable def t_slices_IndexFunc_Sstring_string__impl_ValidConstruction_1_3 {R : Type} (nx : s_slices_IndexFunc_Sstring_string__impl_ValidConstruction_1_3.T → Option R) (hx : exH R x_slices_IndexFunc_Sstring_string__impl_ValidConstruction_1_3) (z : s_slices_IndexFunc_Sstring_string__impl_ValidConstruction_1_3.T) : Option R := u_slices_IndexFunc_Sstring_string__impl_ValidConstruction_1_3 nx hx z.1.1.1 z.1.2.2.1.1 z.1.2.2.2.1.1
theorem nat_slices_IndexFunc_Sstring_string__impl_ValidConstruction_1_3 : Natural @t_slices_IndexFunc_Sstring_string__impl_ValidConstruction_1_3 := fun R nx hx z => by
  show u_slices_IndexFunc_Sstring_string__impl_ValidConstruction_1_3 nx hx z.1.1.1 z.1.2.2.1.1 z.1.2.2.2.1.1 = (u_slices_IndexFunc_Sstring_string__impl_ValidConstruction_1_3 (fun y => some (.inl y)) (hIn x_slices_IndexFunc_Sstring_string__impl_ValidConstruction_1_3 fun x => some (.inr x)) z.1.1.1 z.1.2.2.1.1 z.1.2.2.2.1.1).bind (goOn nx hx)
  unfold u_slices_IndexFunc_Sstring_string__impl_ValidConstruction_1_3
  exact nat_cond (nat_bind fun _ => nat_bind fun _ => nat_cond (rfl) (rfl)) (rfl)
noncomputable def w_slices_IndexFunc_Sstring_string__impl_ValidConstruction_1_3 : s_slices_IndexFunc_Sstring_string__impl_ValidConstruction_1_3.T → Option (exT x_slices_IndexFunc_Sstring_string__impl_ValidConstruction_1_3) := wOf @t_slices_IndexFunc_Sstring_string__impl_ValidConstruction_1_3
theorem wq_slices_IndexFunc_Sstring_string__impl_ValidConstruction_1_3 (x0 : List ByteArray) (x7 : Int) (x8 : Int) : w_slices_IndexFunc_Sstring_string__impl_ValidConstruction_1_3 (m_slices_IndexFunc_Sstring_string__impl_ValidConstruction_1_3 x0 x7 x8) = u_slices_IndexFunc_Sstring_string__impl_ValidConstruction_1_3 w_slices_IndexFunc_Sstring_string__impl_ValidConstruction_1_3 (hIn x_slices_IndexFunc_Sstring_string__impl_ValidConstruction_1_3 some) x0 x7 x8 := wOf_eq nat_slices_IndexFunc_Sstring_string__impl_ValidConstruction_1_3 _
def lh_slices_IndexFunc_Sstring_string__impl_ValidConstruction_1_3 : LoopHint := ⟨[0, 1, 7, 8], [], [4], []⟩
noncomputable def h_slices_IndexFunc_Sstring_string__impl_ValidConstruction_1 : Hints Rv := ⟨fun k => match k with | 3 => lh_slices_IndexFunc_Sstring_string__impl_ValidConstruction_1_3 | _ => ⟨[], [], [], []⟩, fun k => match k with | 3 => some (loopX s_slices_IndexFunc_Sstring_string__impl_ValidConstruction_1_3 x_slices_IndexFunc_Sstring_string__impl_ValidConstruction_1_3 w_slices_IndexFunc_Sstring_string__impl_ValidConstruction_1_3) | _ => none⟩
theorem st_slices_IndexFunc_Sstring_string__impl_ValidConstruction_1_3 (n : Nat) (z : s_slices_IndexFunc_Sstring_string__impl_ValidConstruction_1_3.T) (k : Ex → Live → Option Rv) : loopN ⟨19, 19⟩ lh_slices_IndexFunc_Sstring_string__impl_ValidConstruction_1_3 (den (tab C0 T_slices_IndexFunc_Sstring_string__impl_ValidConstruction_1) ⟨19, 19⟩ h_slices_IndexFunc_Sstring_string__impl_ValidConstruction_1 1 (loopOf Tryd.f91 2)) (n + 1) (s_slices_IndexFunc_Sstring_string__impl_ValidConstruction_1_3.enc z) k =
    t_slices_IndexFunc_Sstring_string__impl_ValidConstruction_1_3 (fun y => loopN ⟨19, 19⟩ lh_slices_IndexFunc_Sstring_string__impl_ValidConstruction_1_3 (den (tab C0 T_slices_IndexFunc_Sstring_string__impl_ValidConstruction_1) ⟨19, 19⟩ h_slices_IndexFunc_Sstring_string__impl_ValidConstruction_1 1 (loopOf Tryd.f91 2)) n (s_slices_IndexFunc_Sstring_string__impl_ValidConstruction_1_3.enc y) k) (hK k x_slices_IndexFunc_Sstring_string__impl_ValidConstruction_1_3) z := by kernel_rfl
theorem hs_slices_IndexFunc_Sstring_string__impl_ValidConstruction_1 : HintsOk (tab C0 T_slices_IndexFunc_Sstring_string__impl_ValidConstruction_1) ⟨19, 19⟩ h_slices_IndexFunc_Sstring_string__impl_ValidConstruction_1 1 (loops (codeOf Tryd.f91)) := by
  have hl : loops (codeOf Tryd.f91) = [loopOf Tryd.f91 2] := by kernel_rfl
  rw [hl]
  exact HintsOk.cons (n := 3) (lh := lh_slices_IndexFunc_Sstring_string__impl_ValidConstruction_1_3) (S := loopX s_slices_IndexFunc_Sstring_string__impl_ValidConstruction_1_3 x_slices_IndexFunc_Sstring_string__impl_ValidConstruction_1_3 w_slices_IndexFunc_Sstring_string__impl_ValidConstruction_1_3) (by kernel_rfl) rfl rfl (loopX_ok nat_slices_IndexFunc_Sstring_string__impl_ValidConstruction_1_3 st_slices_IndexFunc_Sstring_string__impl_ValidConstruction_1_3)
    (HintsOk.nil)
noncomputable def t_slices_IndexFunc_Sstring_string__impl_ValidConstruction_1 {R : Type} (kx : Int → Option R) (a0 : (List ByteArray)) : Option R :=
  Option.bind (w_slices_IndexFunc_Sstring_string__impl_ValidConstruction_1_3 (m_slices_IndexFunc_Sstring_string__impl_ValidConstruction_1_3 a0 (((List.length a0) : Nat) : Int) (0 : Int))) (exC x_slices_IndexFunc_Sstring_string__impl_ValidConstruction_1_3
  (fun e459 =>
   kx (e459.1.1.1 : Int), fun _ =>
   kx (-(1 : Int)), ()))
noncomputable def g_slices_IndexFunc_Sstring_string__impl_ValidConstruction_1 (a0 : (List ByteArray)) : Option (Int) := t_slices_IndexFunc_Sstring_string__impl_ValidConstruction_1 some a0
theorem nat_slices_IndexFunc_Sstring_string__impl_ValidConstruction_1 {R : Type} (kx : Int → Option R) (a0 : (List ByteArray)) : t_slices_IndexFunc_Sstring_string__impl_ValidConstruction_1 kx a0 = (g_slices_IndexFunc_Sstring_string__impl_ValidConstruction_1 a0).bind kx := by
  unfold g_slices_IndexFunc_Sstring_string__impl_ValidConstruction_1 t_slices_IndexFunc_Sstring_string__impl_ValidConstruction_1
  exact nat_exC ⟨fun _ => rfl, fun _ => rfl, trivial⟩
abbrev as_slices_IndexFunc_Sstring_string__impl_ValidConstruction_1 : List AX := [.val false (.slice .str), .clo 50 []]
abbrev en_slices_IndexFunc_Sstring_string__impl_ValidConstruction_1 : Int → AV × List CV := fun b => (.one ⟨false, [(.v (.int .i64 b))]⟩, [])
noncomputable abbrev k_slices_IndexFunc_Sstring_string__impl_ValidConstruction_1 : Contract := .fx as_slices_IndexFunc_Sstring_string__impl_ValidConstruction_1 (Int) (fun z => g_slices_IndexFunc_Sstring_string__impl_ValidConstruction_1 z.1) en_slices_IndexFunc_Sstring_string__impl_ValidConstruction_1
theorem r_slices_IndexFunc_Sstring_string__impl_ValidConstruction_1 (z : argsX as_slices_IndexFunc_Sstring_string__impl_ValidConstruction_1) : runF (tab C0 T_slices_IndexFunc_Sstring_string__impl_ValidConstruction_1) h_slices_IndexFunc_Sstring_string__impl_ValidConstruction_1 1 Tryd.f91 (lentOf as_slices_IndexFunc_Sstring_string__impl_ValidConstruction_1) (xBoxes as_slices_IndexFunc_Sstring_string__impl_ValidConstruction_1 z) (xVals as_slices_IndexFunc_Sstring_string__impl_ValidConstruction_1 0 z) K2 = t_slices_IndexFunc_Sstring_string__impl_ValidConstruction_1 (fun b => some (en_slices_IndexFunc_Sstring_string__impl_ValidConstruction_1 b)) z.1 := by kernel_rfl
theorem so_slices_IndexFunc_Sstring_string__impl_ValidConstruction_1 : Sound C0 91 k_slices_IndexFunc_Sstring_string__impl_ValidConstruction_1 :=
  Sound.fx a_slices_IndexFunc_Sstring_string__impl_ValidConstruction_1 mixed Tryd.func91 (by kernel_rfl) (by kernel_rfl) h_slices_IndexFunc_Sstring_string__impl_ValidConstruction_1 1 hs_slices_IndexFunc_Sstring_string__impl_ValidConstruction_1 (fun z => (r_slices_IndexFunc_Sstring_string__impl_ValidConstruction_1 z).trans (nat_slices_IndexFunc_Sstring_string__impl_ValidConstruction_1 _ z.1))

/-! ### F49 slices.ContainsFunc[[]string,string] -/
noncomputable def T_slices_ContainsFunc_Sstring_string__impl_ValidConstruction_1 : List (FuncId × Contract) := [(91, k_slices_IndexFunc_Sstring_string__impl_ValidConstruction_1)]
theorem a_slices_ContainsFunc_Sstring_string__impl_ValidConstruction_1 : AllSound C0 T_slices_ContainsFunc_Sstring_string__impl_ValidConstruction_1 := .cons so_slices_IndexFunc_Sstring_string__impl_ValidConstruction_1 (.nil)
noncomputable def t_slices_ContainsFunc_Sstring_string__impl_ValidConstruction_1 {R : Type} (kx : Bool → Option R) (a0 : (List ByteArray)) : Option R :=
  Option.bind (g_slices_IndexFunc_Sstring_string__impl_ValidConstruction_1 a0) fun y462 =>
  kx (decide (y462 ≥ (0 : Int)))
noncomputable def g_slices_ContainsFunc_Sstring_string__impl_ValidConstruction_1 (a0 : (List ByteArray)) : Option (Bool) := t_slices_ContainsFunc_Sstring_string__impl_ValidConstruction_1 some a0
theorem nat_slices_ContainsFunc_Sstring_string__impl_ValidConstruction_1 {R : Type} (kx : Bool → Option R) (a0 : (List ByteArray)) : t_slices_ContainsFunc_Sstring_string__impl_ValidConstruction_1 kx a0 = (g_slices_ContainsFunc_Sstring_string__impl_ValidConstruction_1 a0).bind kx := by
  unfold g_slices_ContainsFunc_Sstring_string__impl_ValidConstruction_1 t_slices_ContainsFunc_Sstring_string__impl_ValidConstruction_1
  exact nat_bind fun _ => rfl
abbrev as_slices_ContainsFunc_Sstring_string__impl_ValidConstruction_1 : List AX := [.val false (.slice .str), .clo 50 []]
abbrev en_slices_ContainsFunc_Sstring_string__impl_ValidConstruction_1 : Bool → AV × List CV := fun b => (.one ⟨false, [(.v (.bool b))]⟩, [])
noncomputable abbrev k_slices_ContainsFunc_Sstring_string__impl_ValidConstruction_1 : Contract := .fx as_slices_ContainsFunc_Sstring_string__impl_ValidConstruction_1 (Bool) (fun z => g_slices_ContainsFunc_Sstring_string__impl_ValidConstruction_1 z.1) en_slices_ContainsFunc_Sstring_string__impl_ValidConstruction_1
theorem r_slices_ContainsFunc_Sstring_string__impl_ValidConstruction_1 (z : argsX as_slices_ContainsFunc_Sstring_string__impl_ValidConstruction_1) : runF (tab C0 T_slices_ContainsFunc_Sstring_string__impl_ValidConstruction_1) noHints 1 Tryd.f49 (lentOf as_slices_ContainsFunc_Sstring_string__impl_ValidConstruction_1) (xBoxes as_slices_ContainsFunc_Sstring_string__impl_ValidConstruction_1 z) (xVals as_slices_ContainsFunc_Sstring_string__impl_ValidConstruction_1 0 z) K2 = t_slices_ContainsFunc_Sstring_string__impl_ValidConstruction_1 (fun b => some (en_slices_ContainsFunc_Sstring_string__impl_ValidConstruction_1 b)) z.1 := by kernel_rfl
theorem so_slices_ContainsFunc_Sstring_string__impl_ValidConstruction_1 : Sound C0 49 k_slices_ContainsFunc_Sstring_string__impl_ValidConstruction_1 :=
  Sound.fx a_slices_ContainsFunc_Sstring_string__impl_ValidConstruction_1 mixed Tryd.func49 (by kernel_rfl) (by kernel_rfl) noHints 1 noHints_ok (fun z => (r_slices_ContainsFunc_Sstring_string__impl_ValidConstruction_1 z).trans (nat_slices_ContainsFunc_Sstring_string__impl_ValidConstruction_1 _ z.1))

/-! ### F92 impl.ValidNum -/
noncomputable def T_impl_ValidNum : List (FuncId × Contract) := [(48, k_impl_within)]
theorem a_impl_ValidNum : AllSound C0 T_impl_ValidNum := .cons so_impl_within (.nil)
noncomputable def t_impl_ValidNum {R : Type} (kx : Bool → Option R) (a0 : (Int × (Int × Int))) : Option R :=
  Option.bind (g_impl_within a0.1 (-(131072 : Int)) (131072 : Int)) fun y467 =>
  cond y467
  (Option.bind (g_impl_within a0.2.1 (-(131072 : Int)) (131072 : Int)) fun y468 =>
   cond y468
   (Option.bind (g_impl_within a0.2.2 (0 : Int) (10 : Int)) fun y469 =>
    cond y469
    (cond (a0.2.2 == (0 : Int))
     (kx Bool.true)
     (cond ((IntKind.wrap IntKind.i64 (((BitVec.toNat ((BitVec.ofInt 64 a0.1) &&& (BitVec.ofInt 64 (1 : Int)))) : Nat) : Int)) == (1 : Int))
      (kx Bool.true)
      (kx ((IntKind.wrap IntKind.i64 (((BitVec.toNat ((BitVec.ofInt 64 a0.2.1) &&& (BitVec.ofInt 64 (1 : Int)))) : Nat) : Int)) == (1 : Int)))))
    (kx Bool.false))
   (kx Bool.false))
  (kx Bool.false)
noncomputable def g_impl_ValidNum (a0 : (Int × (Int × Int))) : Option (Bool) := t_impl_ValidNum some a0
theorem nat_impl_ValidNum {R : Type} (kx : Bool → Option R) (a0 : (Int × (Int × Int))) : t_impl_ValidNum kx a0 = (g_impl_ValidNum a0).bind kx := by
  unfold g_impl_ValidNum t_impl_ValidNum
  exact nat_bind fun _ => nat_cond (nat_bind fun _ => nat_cond (nat_bind fun _ => nat_cond (nat_cond (rfl) (nat_cond (rfl) (rfl))) (rfl)) (rfl)) (rfl)
abbrev as_impl_ValidNum : List AX := [.val true (.pair (.int .i64) (.pair (.int .i64) (.int .i64)))]
abbrev en_impl_ValidNum : Bool → AV × List CV := fun b => (.one ⟨false, [(.v (.bool b))]⟩, [])
noncomputable abbrev k_impl_ValidNum : Contract := .fx as_impl_ValidNum (Bool) (fun z => g_impl_ValidNum z.1) en_impl_ValidNum
theorem r_impl_ValidNum (z : argsX as_impl_ValidNum) : runF (tab C0 T_impl_ValidNum) noHints 1 Tryd.f92 (lentOf as_impl_ValidNum) (xBoxes as_impl_ValidNum z) (xVals as_impl_ValidNum 0 z) K2 = t_impl_ValidNum (fun b => some (en_impl_ValidNum b)) z.1 := by kernel_rfl
theorem so_impl_ValidNum : Sound C0 92 k_impl_ValidNum :=
  Sound.fx a_impl_ValidNum mixed Tryd.func92 (by kernel_rfl) (by kernel_rfl) noHints 1 noHints_ok (fun z => (r_impl_ValidNum z).trans (nat_impl_ValidNum _ z.1))

/-! ### F51 impl.ValidPoint -/
noncomputable def T_impl_ValidPoint : List (FuncId × Contract) := [(92, k_impl_ValidNum)]
theorem a_impl_ValidPoint : AllSound C0 T_impl_ValidPoint := .cons so_impl_ValidNum (.nil)
noncomputable def t_impl_ValidPoint {R : Type} (kx : Bool → Option R) (a0 : ((Int × (Int × Int)) × (Int × (Int × Int)))) : Option R :=
  Option.bind (g_impl_ValidNum a0.1) fun y470 =>
  cond y470
  (Option.bind (g_impl_ValidNum a0.2) fun y471 =>
   kx y471)
  (kx Bool.false)
noncomputable def g_impl_ValidPoint (a0 : ((Int × (Int × Int)) × (Int × (Int × Int)))) : Option (Bool) := t_impl_ValidPoint some a0
theorem nat_impl_ValidPoint {R : Type} (kx : Bool → Option R) (a0 : ((Int × (Int × Int)) × (Int × (Int × Int)))) : t_impl_ValidPoint kx a0 = (g_impl_ValidPoint a0).bind kx := by
  unfold g_impl_ValidPoint t_impl_ValidPoint
  exact nat_bind fun _ => nat_cond (nat_bind fun _ => rfl) (rfl)
abbrev as_impl_ValidPoint : List AX := [.val true (.pair (.pair (.int .i64) (.pair (.int .i64) (.int .i64))) (.pair (.int .i64) (.pair (.int .i64) (.int .i64))))]
abbrev en_impl_ValidPoint : Bool → AV × List CV := fun b => (.one ⟨false, [(.v (.bool b))]⟩, [])
noncomputable abbrev k_impl_ValidPoint : Contract := .fx as_impl_ValidPoint (Bool) (fun z => g_impl_ValidPoint z.1) en_impl_ValidPoint
theorem r_impl_ValidPoint (z : argsX as_impl_ValidPoint) : runF (tab C0 T_impl_ValidPoint) noHints 1 Tryd.f51 (lentOf as_impl_ValidPoint) (xBoxes as_impl_ValidPoint z) (xVals as_impl_ValidPoint 0 z) K2 = t_impl_ValidPoint (fun b => some (en_impl_ValidPoint b)) z.1 := by kernel_rfl
theorem so_impl_ValidPoint : Sound C0 51 k_impl_ValidPoint :=
  Sound.fx a_impl_ValidPoint mixed Tryd.func51 (by kernel_rfl) (by kernel_rfl) noHints 1 noHints_ok (fun z => (r_impl_ValidPoint z).trans (nat_impl_ValidPoint _ z.1))

/-! ### F52 impl.ValidLine -/
noncomputable def T_impl_ValidLine : List (FuncId × Contract) := [(48, k_impl_within), (92, k_impl_ValidNum)]
theorem a_impl_ValidLine : AllSound C0 T_impl_ValidLine := .cons so_impl_within (.cons so_impl_ValidNum (.nil))
noncomputable def t_impl_ValidLine {R : Type} (kx : Bool → Option R) (a0 : (Int × (Int × (Int × Int)))) : Option R :=
  Option.bind (g_impl_within a0.1 (0 : Int) (7 : Int)) fun y474 =>
  cond y474
  (Option.bind (g_impl_ValidNum a0.2) fun y475 =>
   kx y475)
  (kx Bool.false)
noncomputable def g_impl_ValidLine (a0 : (Int × (Int × (Int × Int)))) : Option (Bool) := t_impl_ValidLine some a0
theorem nat_impl_ValidLine {R : Type} (kx : Bool → Option R) (a0 : (Int × (Int × (Int × Int)))) : t_impl_ValidLine kx a0 = (g_impl_ValidLine a0).bind kx := by
  unfold g_impl_ValidLine t_impl_ValidLine
  exact nat_bind fun _ => nat_cond (nat_bind fun _ => rfl) (rfl)
abbrev as_impl_ValidLine : List AX := [.val true (.pair (.int .i64) (.pair (.int .i64) (.pair (.int .i64) (.int .i64))))]
abbrev en_impl_ValidLine : Bool → AV × List CV := fun b => (.one ⟨false, [(.v (.bool b))]⟩, [])
noncomputable abbrev k_impl_ValidLine : Contract := .fx as_impl_ValidLine (Bool) (fun z => g_impl_ValidLine z.1) en_impl_ValidLine
theorem r_impl_ValidLine (z : argsX as_impl_ValidLine) : runF (tab C0 T_impl_ValidLine) noHints 1 Tryd.f52 (lentOf as_impl_ValidLine) (xBoxes as_impl_ValidLine z) (xVals as_impl_ValidLine 0 z) K2 = t_impl_ValidLine (fun b => some (en_impl_ValidLine b)) z.1 := by kernel_rfl
theorem so_impl_ValidLine : Sound C0 52 k_impl_ValidLine :=
  Sound.fx a_impl_ValidLine mixed Tryd.func52 (by kernel_rfl) (by kernel_rfl) noHints 1 noHints_ok (fun z => (r_impl_ValidLine z).trans (nat_impl_ValidLine _ z.1))

/-! ### F16 impl.ValidConstruction -/
noncomputable def T_impl_ValidConstruction : List (FuncId × Contract) := [(47, k_impl_IsName), (48, k_impl_within), (49, k_slices_ContainsFunc_Sstring_string__impl_ValidConstruction_1), (51, k_impl_ValidPoint), (52, k_impl_ValidLine)]
theorem a_impl_ValidConstruction : AllSound C0 T_impl_ValidConstruction := .cons so_impl_IsName (.cons so_impl_within (.cons so_slices_ContainsFunc_Sstring_string__impl_ValidConstruction_1 (.cons so_impl_ValidPoint (.cons so_impl_ValidLine (.nil)))))
noncomputable def t_impl_ValidConstruction {R : Type} (kx : Bool → Option R) (a0 : (ByteArray × (Int × ((List ByteArray) × (Int × (((Int × (Int × Int)) × (Int × (Int × Int))) × (Int × (Int × (Int × Int))))))))) : Option R :=
  Option.bind (g_impl_IsName a0.1) fun y447 =>
  cond (!y447)
  (kx Bool.false)
  (Option.bind (g_impl_within a0.2.1 (1 : Int) (12 : Int)) fun y448 =>
   cond (!y448)
   (kx Bool.false)
   (Option.bind (idx [((ByteArray.mk (Array.mk [])), ((ByteArray.mk (Array.mk [])), Bool.false)), ((ByteArray.mk (Array.mk [112, 111, 105, 110, 116])), ((ByteArray.mk (Array.mk [])), Bool.false)), ((ByteArray.mk (Array.mk [108, 105, 110, 101])), ((ByteArray.mk (Array.mk [])), Bool.false)), ((ByteArray.mk (Array.mk [109, 101, 101, 116])), ((ByteArray.mk (Array.mk [108, 108])), Bool.false)), ((ByteArray.mk (Array.mk [109, 105, 100, 100, 108, 101])), ((ByteArray.mk (Array.mk [112, 112])), Bool.false)), ((ByteArray.mk (Array.mk [109, 105, 114, 114, 111, 114])), ((ByteArray.mk (Array.mk [108, 120])), Bool.false)), ((ByteArray.mk (Array.mk [116, 104, 114, 111, 117, 103, 104])), ((ByteArray.mk (Array.mk [112, 112])), Bool.false)), ((ByteArray.mk (Array.mk [111, 110, 116, 111])), ((ByteArray.mk (Array.mk [112, 112])), Bool.false)), ((ByteArray.mk (Array.mk [98, 105, 115, 101, 99, 116])), ((ByteArray.mk (Array.mk [108, 108])), Bool.true)), ((ByteArray.mk (Array.mk [115, 113, 117, 97, 114, 101])), ((ByteArray.mk (Array.mk [108, 112])), Bool.false)), ((ByteArray.mk (Array.mk [102, 111, 108, 100])), ((ByteArray.mk (Array.mk [112, 108, 112])), Bool.true)), ((ByteArray.mk (Array.mk [116, 119, 111])), ((ByteArray.mk (Array.mk [112, 108, 112, 108])), Bool.true)), ((ByteArray.mk (Array.mk [97, 99, 114, 111, 115, 115])), ((ByteArray.mk (Array.mk [112, 108, 108])), Bool.false))] a0.2.1) fun y449 =>
    cond ((((List.length a0.2.2.1) : Nat) : Int) != (((ByteArray.size y449.2.1) : Nat) : Int))
    (kx Bool.false)
    (Option.bind (g_slices_ContainsFunc_Sstring_string__impl_ValidConstruction_1 a0.2.2.1) fun y463 =>
     cond y463
     (kx Bool.false)
     (cond y449.2.2
      (Option.bind (g_impl_within a0.2.2.2.1 (0 : Int) (7 : Int)) fun y464 =>
       cond (!y464)
       (kx Bool.false)
       (cond (!y449.2.2)
        (cond (a0.2.2.2.1 != (0 : Int))
         (kx Bool.false)
         (cond (((a0.2.2.2.2.1.1.1 == (0 : Int)) && ((a0.2.2.2.2.1.1.2.1 == (0 : Int)) && ((a0.2.2.2.2.1.1.2.2 == (0 : Int)) && Bool.true))) && (((a0.2.2.2.2.1.2.1 == (0 : Int)) && ((a0.2.2.2.2.1.2.2.1 == (0 : Int)) && ((a0.2.2.2.2.1.2.2.2 == (0 : Int)) && Bool.true))) && Bool.true))
          (cond ((a0.2.2.2.2.2.1 == (0 : Int)) && (((a0.2.2.2.2.2.2.1 == (0 : Int)) && ((a0.2.2.2.2.2.2.2.1 == (0 : Int)) && ((a0.2.2.2.2.2.2.2.2 == (0 : Int)) && Bool.true))) && Bool.true))
           (Option.bind (g_impl_ValidPoint a0.2.2.2.2.1) fun y472 =>
            cond y472
            (Option.bind (g_impl_ValidLine a0.2.2.2.2.2) fun y476 =>
             kx y476)
            (kx Bool.false))
           (cond (a0.2.1 == (2 : Int))
            (Option.bind (g_impl_ValidPoint a0.2.2.2.2.1) fun y477 =>
             cond y477
             (Option.bind (g_impl_ValidLine a0.2.2.2.2.2) fun y478 =>
              kx y478)
             (kx Bool.false))
            (kx Bool.false)))
          (cond (a0.2.1 == (1 : Int))
           (cond ((a0.2.2.2.2.2.1 == (0 : Int)) && (((a0.2.2.2.2.2.2.1 == (0 : Int)) && ((a0.2.2.2.2.2.2.2.1 == (0 : Int)) && ((a0.2.2.2.2.2.2.2.2 == (0 : Int)) && Bool.true))) && Bool.true))
            (Option.bind (g_impl_ValidPoint a0.2.2.2.2.1) fun y479 =>
             cond y479
             (Option.bind (g_impl_ValidLine a0.2.2.2.2.2) fun y480 =>
              kx y480)
             (kx Bool.false))
            (cond (a0.2.1 == (2 : Int))
             (Option.bind (g_impl_ValidPoint a0.2.2.2.2.1) fun y481 =>
              cond y481
              (Option.bind (g_impl_ValidLine a0.2.2.2.2.2) fun y482 =>
               kx y482)
              (kx Bool.false))
             (kx Bool.false)))
           (kx Bool.false))))
        (cond (((a0.2.2.2.2.1.1.1 == (0 : Int)) && ((a0.2.2.2.2.1.1.2.1 == (0 : Int)) && ((a0.2.2.2.2.1.1.2.2 == (0 : Int)) && Bool.true))) && (((a0.2.2.2.2.1.2.1 == (0 : Int)) && ((a0.2.2.2.2.1.2.2.1 == (0 : Int)) && ((a0.2.2.2.2.1.2.2.2 == (0 : Int)) && Bool.true))) && Bool.true))
         (cond ((a0.2.2.2.2.2.1 == (0 : Int)) && (((a0.2.2.2.2.2.2.1 == (0 : Int)) && ((a0.2.2.2.2.2.2.2.1 == (0 : Int)) && ((a0.2.2.2.2.2.2.2.2 == (0 : Int)) && Bool.true))) && Bool.true))
          (Option.bind (g_impl_ValidPoint a0.2.2.2.2.1) fun y483 =>
           cond y483
           (Option.bind (g_impl_ValidLine a0.2.2.2.2.2) fun y484 =>
            kx y484)
           (kx Bool.false))
          (cond (a0.2.1 == (2 : Int))
           (Option.bind (g_impl_ValidPoint a0.2.2.2.2.1) fun y485 =>
            cond y485
            (Option.bind (g_impl_ValidLine a0.2.2.2.2.2) fun y486 =>
             kx y486)
            (kx Bool.false))
           (kx Bool.false)))
         (cond (a0.2.1 == (1 : Int))
          (cond ((a0.2.2.2.2.2.1 == (0 : Int)) && (((a0.2.2.2.2.2.2.1 == (0 : Int)) && ((a0.2.2.2.2.2.2.2.1 == (0 : Int)) && ((a0.2.2.2.2.2.2.2.2 == (0 : Int)) && Bool.true))) && Bool.true))
           (Option.bind (g_impl_ValidPoint a0.2.2.2.2.1) fun y487 =>
            cond y487
            (Option.bind (g_impl_ValidLine a0.2.2.2.2.2) fun y488 =>
             kx y488)
            (kx Bool.false))
           (cond (a0.2.1 == (2 : Int))
            (Option.bind (g_impl_ValidPoint a0.2.2.2.2.1) fun y489 =>
             cond y489
             (Option.bind (g_impl_ValidLine a0.2.2.2.2.2) fun y490 =>
              kx y490)
             (kx Bool.false))
            (kx Bool.false)))
          (kx Bool.false)))))
      (cond (!y449.2.2)
       (cond (a0.2.2.2.1 != (0 : Int))
        (kx Bool.false)
        (cond (((a0.2.2.2.2.1.1.1 == (0 : Int)) && ((a0.2.2.2.2.1.1.2.1 == (0 : Int)) && ((a0.2.2.2.2.1.1.2.2 == (0 : Int)) && Bool.true))) && (((a0.2.2.2.2.1.2.1 == (0 : Int)) && ((a0.2.2.2.2.1.2.2.1 == (0 : Int)) && ((a0.2.2.2.2.1.2.2.2 == (0 : Int)) && Bool.true))) && Bool.true))
         (cond ((a0.2.2.2.2.2.1 == (0 : Int)) && (((a0.2.2.2.2.2.2.1 == (0 : Int)) && ((a0.2.2.2.2.2.2.2.1 == (0 : Int)) && ((a0.2.2.2.2.2.2.2.2 == (0 : Int)) && Bool.true))) && Bool.true))
          (Option.bind (g_impl_ValidPoint a0.2.2.2.2.1) fun y491 =>
           cond y491
           (Option.bind (g_impl_ValidLine a0.2.2.2.2.2) fun y492 =>
            kx y492)
           (kx Bool.false))
          (cond (a0.2.1 == (2 : Int))
           (Option.bind (g_impl_ValidPoint a0.2.2.2.2.1) fun y493 =>
            cond y493
            (Option.bind (g_impl_ValidLine a0.2.2.2.2.2) fun y494 =>
             kx y494)
            (kx Bool.false))
           (kx Bool.false)))
         (cond (a0.2.1 == (1 : Int))
          (cond ((a0.2.2.2.2.2.1 == (0 : Int)) && (((a0.2.2.2.2.2.2.1 == (0 : Int)) && ((a0.2.2.2.2.2.2.2.1 == (0 : Int)) && ((a0.2.2.2.2.2.2.2.2 == (0 : Int)) && Bool.true))) && Bool.true))
           (Option.bind (g_impl_ValidPoint a0.2.2.2.2.1) fun y495 =>
            cond y495
            (Option.bind (g_impl_ValidLine a0.2.2.2.2.2) fun y496 =>
             kx y496)
            (kx Bool.false))
           (cond (a0.2.1 == (2 : Int))
            (Option.bind (g_impl_ValidPoint a0.2.2.2.2.1) fun y497 =>
             cond y497
             (Option.bind (g_impl_ValidLine a0.2.2.2.2.2) fun y498 =>
              kx y498)
             (kx Bool.false))
            (kx Bool.false)))
          (kx Bool.false))))
       (cond (((a0.2.2.2.2.1.1.1 == (0 : Int)) && ((a0.2.2.2.2.1.1.2.1 == (0 : Int)) && ((a0.2.2.2.2.1.1.2.2 == (0 : Int)) && Bool.true))) && (((a0.2.2.2.2.1.2.1 == (0 : Int)) && ((a0.2.2.2.2.1.2.2.1 == (0 : Int)) && ((a0.2.2.2.2.1.2.2.2 == (0 : Int)) && Bool.true))) && Bool.true))
        (cond ((a0.2.2.2.2.2.1 == (0 : Int)) && (((a0.2.2.2.2.2.2.1 == (0 : Int)) && ((a0.2.2.2.2.2.2.2.1 == (0 : Int)) && ((a0.2.2.2.2.2.2.2.2 == (0 : Int)) && Bool.true))) && Bool.true))
         (Option.bind (g_impl_ValidPoint a0.2.2.2.2.1) fun y499 =>
          cond y499
          (Option.bind (g_impl_ValidLine a0.2.2.2.2.2) fun y500 =>
           kx y500)
          (kx Bool.false))
         (cond (a0.2.1 == (2 : Int))
          (Option.bind (g_impl_ValidPoint a0.2.2.2.2.1) fun y501 =>
           cond y501
           (Option.bind (g_impl_ValidLine a0.2.2.2.2.2) fun y502 =>
            kx y502)
           (kx Bool.false))
          (kx Bool.false)))
        (cond (a0.2.1 == (1 : Int))
         (cond ((a0.2.2.2.2.2.1 == (0 : Int)) && (((a0.2.2.2.2.2.2.1 == (0 : Int)) && ((a0.2.2.2.2.2.2.2.1 == (0 : Int)) && ((a0.2.2.2.2.2.2.2.2 == (0 : Int)) && Bool.true))) && Bool.true))
          (Option.bind (g_impl_ValidPoint a0.2.2.2.2.1) fun y503 =>
           cond y503
           (Option.bind (g_impl_ValidLine a0.2.2.2.2.2) fun y504 =>
            kx y504)
           (kx Bool.false))
          (cond (a0.2.1 == (2 : Int))
           (Option.bind (g_impl_ValidPoint a0.2.2.2.2.1) fun y505 =>
            cond y505
            (Option.bind (g_impl_ValidLine a0.2.2.2.2.2) fun y506 =>
             kx y506)
            (kx Bool.false))
           (kx Bool.false)))
         (kx Bool.false))))))))
noncomputable def g_impl_ValidConstruction (a0 : (ByteArray × (Int × ((List ByteArray) × (Int × (((Int × (Int × Int)) × (Int × (Int × Int))) × (Int × (Int × (Int × Int))))))))) : Option (Bool) := t_impl_ValidConstruction some a0
theorem nat_impl_ValidConstruction {R : Type} (kx : Bool → Option R) (a0 : (ByteArray × (Int × ((List ByteArray) × (Int × (((Int × (Int × Int)) × (Int × (Int × Int))) × (Int × (Int × (Int × Int))))))))) : t_impl_ValidConstruction kx a0 = (g_impl_ValidConstruction a0).bind kx := by
  unfold g_impl_ValidConstruction t_impl_ValidConstruction
  exact nat_bind fun _ => nat_cond (rfl) (nat_bind fun _ => nat_cond (rfl) (nat_bind fun _ => nat_cond (rfl) (nat_bind fun _ => nat_cond (rfl) (nat_cond (nat_bind fun _ => nat_cond (rfl) (nat_cond (nat_cond (rfl) (nat_cond (nat_cond (nat_bind fun _ => nat_cond (nat_bind fun _ => rfl) (rfl)) (nat_cond (nat_bind fun _ => nat_cond (nat_bind fun _ => rfl) (rfl)) (rfl))) (nat_cond (nat_cond (nat_bind fun _ => nat_cond (nat_bind fun _ => rfl) (rfl)) (nat_cond (nat_bind fun _ => nat_cond (nat_bind fun _ => rfl) (rfl)) (rfl))) (rfl)))) (nat_cond (nat_cond (nat_bind fun _ => nat_cond (nat_bind fun _ => rfl) (rfl)) (nat_cond (nat_bind fun _ => nat_cond (nat_bind fun _ => rfl) (rfl)) (rfl))) (nat_cond (nat_cond (nat_bind fun _ => nat_cond (nat_bind fun _ => rfl) (rfl)) (nat_cond (nat_bind fun _ => nat_cond (nat_bind fun _ => rfl) (rfl)) (rfl))) (rfl))))) (nat_cond (nat_cond (rfl) (nat_cond (nat_cond (nat_bind fun _ => nat_cond (nat_bind fun _ => rfl) (rfl)) (nat_cond (nat_bind fun _ => nat_cond (nat_bind fun _ => rfl) (rfl)) (rfl))) (nat_cond (nat_cond (nat_bind fun _ => nat_cond (nat_bind fun _ => rfl) (rfl)) (nat_cond (nat_bind fun _ => nat_cond (nat_bind fun _ => rfl) (rfl)) (rfl))) (rfl)))) (nat_cond (nat_cond (nat_bind fun _ => nat_cond (nat_bind fun _ => rfl) (rfl)) (nat_cond (nat_bind fun _ => nat_cond (nat_bind fun _ => rfl) (rfl)) (rfl))) (nat_cond (nat_cond (nat_bind fun _ => nat_cond (nat_bind fun _ => rfl) (rfl)) (nat_cond (nat_bind fun _ => nat_cond (nat_bind fun _ => rfl) (rfl)) (rfl))) (rfl))))))))
abbrev as_impl_ValidConstruction : List AX := [.val true (.pair .str (.pair (.int .i64) (.pair (.slice .str) (.pair (.int .i64) (.pair (.pair (.pair (.int .i64) (.pair (.int .i64) (.int .i64))) (.pair (.int .i64) (.pair (.int .i64) (.int .i64)))) (.pair (.int .i64) (.pair (.int .i64) (.pair (.int .i64) (.int .i64)))))))))]
abbrev en_impl_ValidConstruction : Bool → AV × List CV := fun b => (.one ⟨false, [(.v (.bool b))]⟩, [])
noncomputable abbrev k_impl_ValidConstruction : Contract := .fx as_impl_ValidConstruction (Bool) (fun z => g_impl_ValidConstruction z.1) en_impl_ValidConstruction
theorem r_impl_ValidConstruction (z : argsX as_impl_ValidConstruction) : runF (tab C0 T_impl_ValidConstruction) noHints 1 Tryd.f16 (lentOf as_impl_ValidConstruction) (xBoxes as_impl_ValidConstruction z) (xVals as_impl_ValidConstruction 0 z) K2 = t_impl_ValidConstruction (fun b => some (en_impl_ValidConstruction b)) z.1 := by kernel_rfl
theorem so_impl_ValidConstruction : Sound C0 16 k_impl_ValidConstruction :=
  Sound.fx a_impl_ValidConstruction mixed Tryd.func16 (by kernel_rfl) (by kernel_rfl) noHints 1 noHints_ok (fun z => (r_impl_ValidConstruction z).trans (nat_impl_ValidConstruction _ z.1))

/-! ### F100 impl.decimal -/
noncomputable def T_impl_decimal : List (FuncId × Contract) := [(144, k_strconv_FormatInt)]
theorem a_impl_decimal : AllSound C0 T_impl_decimal := .cons so_strconv_FormatInt (.nil)
noncomputable def t_impl_decimal {R : Type} (kx : ByteArray → Option R) (a0 : Int) : Option R :=
  Option.bind (g_strconv_FormatInt a0 (10 : Int)) fun y513 =>
  kx y513
noncomputable def g_impl_decimal (a0 : Int) : Option (ByteArray) := t_impl_decimal some a0
theorem nat_impl_decimal {R : Type} (kx : ByteArray → Option R) (a0 : Int) : t_impl_decimal kx a0 = (g_impl_decimal a0).bind kx := by
  unfold g_impl_decimal t_impl_decimal
  exact nat_bind fun _ => rfl
abbrev as_impl_decimal : List AX := [.val false (.int .i64)]
abbrev en_impl_decimal : ByteArray → AV × List CV := fun b => (.one ⟨false, [(.v (.string b))]⟩, [])
noncomputable abbrev k_impl_decimal : Contract := .fx as_impl_decimal (ByteArray) (fun z => g_impl_decimal z.1) en_impl_decimal
theorem r_impl_decimal (z : argsX as_impl_decimal) : runF (tab C0 T_impl_decimal) noHints 1 Tryd.f100 (lentOf as_impl_decimal) (xBoxes as_impl_decimal z) (xVals as_impl_decimal 0 z) K2 = t_impl_decimal (fun b => some (en_impl_decimal b)) z.1 := by kernel_rfl
theorem so_impl_decimal : Sound C0 100 k_impl_decimal :=
  Sound.fx a_impl_decimal mixed Tryd.func100 (by kernel_rfl) (by kernel_rfl) noHints 1 noHints_ok (fun z => (r_impl_decimal z).trans (nat_impl_decimal _ z.1))

/-! ### F165 impl.abs -/
noncomputable def T_impl_abs : List (FuncId × Contract) := []
theorem a_impl_abs : AllSound C0 T_impl_abs := .nil
noncomputable def t_impl_abs {R : Type} (kx : Int → Option R) (a0 : Int) : Option R :=
  kx (if (Bool.true = Bool.true) then (if ((IntKind.wrap IntKind.i64 ((0 : Int) - a0)) > a0) then (IntKind.wrap IntKind.i64 ((0 : Int) - a0)) else a0) else (if ((IntKind.wrap IntKind.i64 ((0 : Int) - a0)) < a0) then (IntKind.wrap IntKind.i64 ((0 : Int) - a0)) else a0))
noncomputable def g_impl_abs (a0 : Int) : Option (Int) := t_impl_abs some a0
theorem nat_impl_abs {R : Type} (kx : Int → Option R) (a0 : Int) : t_impl_abs kx a0 = (g_impl_abs a0).bind kx := by
  unfold g_impl_abs t_impl_abs
  exact rfl
abbrev as_impl_abs : List AX := [.val false (.int .i64)]
abbrev en_impl_abs : Int → AV × List CV := fun b => (.one ⟨false, [(.v (.int .i64 b))]⟩, [])
noncomputable abbrev k_impl_abs : Contract := .fx as_impl_abs (Int) (fun z => g_impl_abs z.1) en_impl_abs
theorem r_impl_abs (z : argsX as_impl_abs) : runF (tab C0 T_impl_abs) noHints 1 Tryd.f165 (lentOf as_impl_abs) (xBoxes as_impl_abs z) (xVals as_impl_abs 0 z) K2 = t_impl_abs (fun b => some (en_impl_abs b)) z.1 := by kernel_rfl
theorem so_impl_abs : Sound C0 165 k_impl_abs :=
  Sound.fx a_impl_abs mixed Tryd.func165 (by kernel_rfl) (by kernel_rfl) noHints 1 noHints_ok (fun z => (r_impl_abs z).trans (nat_impl_abs _ z.1))

/-! ### F143 impl.numText -/
noncomputable def T_impl_numText : List (FuncId × Contract) := [(100, k_impl_decimal), (165, k_impl_abs)]
theorem a_impl_numText : AllSound C0 T_impl_numText := .cons so_impl_decimal (.cons so_impl_abs (.nil))
noncomputable def t_impl_numText {R : Type} (kx : ByteArray → Option R) (a0 : (Int × (Int × Int))) : Option R :=
  Option.bind (g_impl_decimal a0.1) fun y514 =>
  cond (a0.1 == (0 : Int))
  (cond (a0.2.1 != (0 : Int))
   (Option.bind (g_impl_decimal a0.2.1) fun y515 =>
    cond (decide (((((ByteArray.size y515) + (ByteArray.size (ByteArray.mk (Array.mk [114])))) : Nat) : Int) > (if (Bool.true = Bool.true) then (((2 : Int) ^ (64 - 1)) - (1 : Int)) else (((2 : Int) ^ 64) - (1 : Int)))))
    (none)
    (cond (a0.2.2 != (0 : Int))
     (cond (decide (a0.2.2 < (0 : Int)))
      (none)
      (Option.bind (g_impl_decimal (IntKind.wrap IntKind.i64 ((1 : Int) * ((2 : Int) ^ (Min.min (Int.toNat a0.2.2) 64))))) fun y516 =>
       cond (decide (((((ByteArray.size (ByteArray.mk (Array.mk [47]))) + (ByteArray.size y516)) : Nat) : Int) > (if (Bool.true = Bool.true) then (((2 : Int) ^ (64 - 1)) - (1 : Int)) else (((2 : Int) ^ 64) - (1 : Int)))))
       (none)
       (cond (decide (((((ByteArray.size (y515 ++ (ByteArray.mk (Array.mk [114])))) + (ByteArray.size ((ByteArray.mk (Array.mk [47])) ++ y516))) : Nat) : Int) > (if (Bool.true = Bool.true) then (((2 : Int) ^ (64 - 1)) - (1 : Int)) else (((2 : Int) ^ 64) - (1 : Int)))))
        (none)
        (kx ((y515 ++ (ByteArray.mk (Array.mk [114]))) ++ ((ByteArray.mk (Array.mk [47])) ++ y516))))))
     (kx (y515 ++ (ByteArray.mk (Array.mk [114]))))))
   (cond (a0.2.1 != (0 : Int))
    (cond (decide (a0.2.1 < (0 : Int)))
     (Option.bind (g_impl_abs a0.2.1) fun y518 =>
      Option.bind (g_impl_decimal y518) fun y519 =>
      cond (decide (((((ByteArray.size (ByteArray.mk (Array.mk [45]))) + (ByteArray.size y519)) : Nat) : Int) > (if (Bool.true = Bool.true) then (((2 : Int) ^ (64 - 1)) - (1 : Int)) else (((2 : Int) ^ 64) - (1 : Int)))))
      (none)
      (cond (decide (((((ByteArray.size ((ByteArray.mk (Array.mk [45])) ++ y519)) + (ByteArray.size (ByteArray.mk (Array.mk [114])))) : Nat) : Int) > (if (Bool.true = Bool.true) then (((2 : Int) ^ (64 - 1)) - (1 : Int)) else (((2 : Int) ^ 64) - (1 : Int)))))
       (none)
       (cond (decide (((((ByteArray.size y514) + (ByteArray.size (((ByteArray.mk (Array.mk [45])) ++ y519) ++ (ByteArray.mk (Array.mk [114]))))) : Nat) : Int) > (if (Bool.true = Bool.true) then (((2 : Int) ^ (64 - 1)) - (1 : Int)) else (((2 : Int) ^ 64) - (1 : Int)))))
        (none)
        (cond (a0.2.2 != (0 : Int))
         (cond (decide (((((ByteArray.size (ByteArray.mk (Array.mk [40]))) + (ByteArray.size (y514 ++ (((ByteArray.mk (Array.mk [45])) ++ y519) ++ (ByteArray.mk (Array.mk [114])))))) : Nat) : Int) > (if (Bool.true = Bool.true) then (((2 : Int) ^ (64 - 1)) - (1 : Int)) else (((2 : Int) ^ 64) - (1 : Int)))))
          (none)
          (cond (decide (((((ByteArray.size ((ByteArray.mk (Array.mk [40])) ++ (y514 ++ (((ByteArray.mk (Array.mk [45])) ++ y519) ++ (ByteArray.mk (Array.mk [114])))))) + (ByteArray.size (ByteArray.mk (Array.mk [41])))) : Nat) : Int) > (if (Bool.true = Bool.true) then (((2 : Int) ^ (64 - 1)) - (1 : Int)) else (((2 : Int) ^ 64) - (1 : Int)))))
           (none)
           (cond (a0.2.2 != (0 : Int))
            (cond (decide (a0.2.2 < (0 : Int)))
             (none)
             (Option.bind (g_impl_decimal (IntKind.wrap IntKind.i64 ((1 : Int) * ((2 : Int) ^ (Min.min (Int.toNat a0.2.2) 64))))) fun y520 =>
              cond (decide (((((ByteArray.size (ByteArray.mk (Array.mk [47]))) + (ByteArray.size y520)) : Nat) : Int) > (if (Bool.true = Bool.true) then (((2 : Int) ^ (64 - 1)) - (1 : Int)) else (((2 : Int) ^ 64) - (1 : Int)))))
              (none)
              (cond (decide (((((ByteArray.size (((ByteArray.mk (Array.mk [40])) ++ (y514 ++ (((ByteArray.mk (Array.mk [45])) ++ y519) ++ (ByteArray.mk (Array.mk [114]))))) ++ (ByteArray.mk (Array.mk [41])))) + (ByteArray.size ((ByteArray.mk (Array.mk [47])) ++ y520))) : Nat) : Int) > (if (Bool.true = Bool.true) then (((2 : Int) ^ (64 - 1)) - (1 : Int)) else (((2 : Int) ^ 64) - (1 : Int)))))
               (none)
               (kx ((((ByteArray.mk (Array.mk [40])) ++ (y514 ++ (((ByteArray.mk (Array.mk [45])) ++ y519) ++ (ByteArray.mk (Array.mk [114]))))) ++ (ByteArray.mk (Array.mk [41]))) ++ ((ByteArray.mk (Array.mk [47])) ++ y520))))))
            (kx (((ByteArray.mk (Array.mk [40])) ++ (y514 ++ (((ByteArray.mk (Array.mk [45])) ++ y519) ++ (ByteArray.mk (Array.mk [114]))))) ++ (ByteArray.mk (Array.mk [41])))))))
         (cond (a0.2.2 != (0 : Int))
          (cond (decide (a0.2.2 < (0 : Int)))
           (none)
           (Option.bind (g_impl_decimal (IntKind.wrap IntKind.i64 ((1 : Int) * ((2 : Int) ^ (Min.min (Int.toNat a0.2.2) 64))))) fun y521 =>
            cond (decide (((((ByteArray.size (ByteArray.mk (Array.mk [47]))) + (ByteArray.size y521)) : Nat) : Int) > (if (Bool.true = Bool.true) then (((2 : Int) ^ (64 - 1)) - (1 : Int)) else (((2 : Int) ^ 64) - (1 : Int)))))
            (none)
            (cond (decide (((((ByteArray.size (y514 ++ (((ByteArray.mk (Array.mk [45])) ++ y519) ++ (ByteArray.mk (Array.mk [114]))))) + (ByteArray.size ((ByteArray.mk (Array.mk [47])) ++ y521))) : Nat) : Int) > (if (Bool.true = Bool.true) then (((2 : Int) ^ (64 - 1)) - (1 : Int)) else (((2 : Int) ^ 64) - (1 : Int)))))
             (none)
             (kx ((y514 ++ (((ByteArray.mk (Array.mk [45])) ++ y519) ++ (ByteArray.mk (Array.mk [114])))) ++ ((ByteArray.mk (Array.mk [47])) ++ y521))))))
          (kx (y514 ++ (((ByteArray.mk (Array.mk [45])) ++ y519) ++ (ByteArray.mk (Array.mk [114]))))))))))
     (Option.bind (g_impl_abs a0.2.1) fun y522 =>
      Option.bind (g_impl_decimal y522) fun y523 =>
      cond (decide (((((ByteArray.size (ByteArray.mk (Array.mk [43]))) + (ByteArray.size y523)) : Nat) : Int) > (if (Bool.true = Bool.true) then (((2 : Int) ^ (64 - 1)) - (1 : Int)) else (((2 : Int) ^ 64) - (1 : Int)))))
      (none)
      (cond (decide (((((ByteArray.size ((ByteArray.mk (Array.mk [43])) ++ y523)) + (ByteArray.size (ByteArray.mk (Array.mk [114])))) : Nat) : Int) > (if (Bool.true = Bool.true) then (((2 : Int) ^ (64 - 1)) - (1 : Int)) else (((2 : Int) ^ 64) - (1 : Int)))))
       (none)
       (cond (decide (((((ByteArray.size y514) + (ByteArray.size (((ByteArray.mk (Array.mk [43])) ++ y523) ++ (ByteArray.mk (Array.mk [114]))))) : Nat) : Int) > (if (Bool.true = Bool.true) then (((2 : Int) ^ (64 - 1)) - (1 : Int)) else (((2 : Int) ^ 64) - (1 : Int)))))
        (none)
        (cond (a0.2.2 != (0 : Int))
         (cond (decide (((((ByteArray.size (ByteArray.mk (Array.mk [40]))) + (ByteArray.size (y514 ++ (((ByteArray.mk (Array.mk [43])) ++ y523) ++ (ByteArray.mk (Array.mk [114])))))) : Nat) : Int) > (if (Bool.true = Bool.true) then (((2 : Int) ^ (64 - 1)) - (1 : Int)) else (((2 : Int) ^ 64) - (1 : Int)))))
          (none)
          (cond (decide (((((ByteArray.size ((ByteArray.mk (Array.mk [40])) ++ (y514 ++ (((ByteArray.mk (Array.mk [43])) ++ y523) ++ (ByteArray.mk (Array.mk [114])))))) + (ByteArray.size (ByteArray.mk (Array.mk [41])))) : Nat) : Int) > (if (Bool.true = Bool.true) then (((2 : Int) ^ (64 - 1)) - (1 : Int)) else (((2 : Int) ^ 64) - (1 : Int)))))
           (none)
           (cond (a0.2.2 != (0 : Int))
            (cond (decide (a0.2.2 < (0 : Int)))
             (none)
             (Option.bind (g_impl_decimal (IntKind.wrap IntKind.i64 ((1 : Int) * ((2 : Int) ^ (Min.min (Int.toNat a0.2.2) 64))))) fun y524 =>
              cond (decide (((((ByteArray.size (ByteArray.mk (Array.mk [47]))) + (ByteArray.size y524)) : Nat) : Int) > (if (Bool.true = Bool.true) then (((2 : Int) ^ (64 - 1)) - (1 : Int)) else (((2 : Int) ^ 64) - (1 : Int)))))
              (none)
              (cond (decide (((((ByteArray.size (((ByteArray.mk (Array.mk [40])) ++ (y514 ++ (((ByteArray.mk (Array.mk [43])) ++ y523) ++ (ByteArray.mk (Array.mk [114]))))) ++ (ByteArray.mk (Array.mk [41])))) + (ByteArray.size ((ByteArray.mk (Array.mk [47])) ++ y524))) : Nat) : Int) > (if (Bool.true = Bool.true) then (((2 : Int) ^ (64 - 1)) - (1 : Int)) else (((2 : Int) ^ 64) - (1 : Int)))))
               (none)
               (kx ((((ByteArray.mk (Array.mk [40])) ++ (y514 ++ (((ByteArray.mk (Array.mk [43])) ++ y523) ++ (ByteArray.mk (Array.mk [114]))))) ++ (ByteArray.mk (Array.mk [41]))) ++ ((ByteArray.mk (Array.mk [47])) ++ y524))))))
            (kx (((ByteArray.mk (Array.mk [40])) ++ (y514 ++ (((ByteArray.mk (Array.mk [43])) ++ y523) ++ (ByteArray.mk (Array.mk [114]))))) ++ (ByteArray.mk (Array.mk [41])))))))
         (cond (a0.2.2 != (0 : Int))
          (cond (decide (a0.2.2 < (0 : Int)))
           (none)
           (Option.bind (g_impl_decimal (IntKind.wrap IntKind.i64 ((1 : Int) * ((2 : Int) ^ (Min.min (Int.toNat a0.2.2) 64))))) fun y525 =>
            cond (decide (((((ByteArray.size (ByteArray.mk (Array.mk [47]))) + (ByteArray.size y525)) : Nat) : Int) > (if (Bool.true = Bool.true) then (((2 : Int) ^ (64 - 1)) - (1 : Int)) else (((2 : Int) ^ 64) - (1 : Int)))))
            (none)
            (cond (decide (((((ByteArray.size (y514 ++ (((ByteArray.mk (Array.mk [43])) ++ y523) ++ (ByteArray.mk (Array.mk [114]))))) + (ByteArray.size ((ByteArray.mk (Array.mk [47])) ++ y525))) : Nat) : Int) > (if (Bool.true = Bool.true) then (((2 : Int) ^ (64 - 1)) - (1 : Int)) else (((2 : Int) ^ 64) - (1 : Int)))))
             (none)
             (kx ((y514 ++ (((ByteArray.mk (Array.mk [43])) ++ y523) ++ (ByteArray.mk (Array.mk [114])))) ++ ((ByteArray.mk (Array.mk [47])) ++ y525))))))
          (kx (y514 ++ (((ByteArray.mk (Array.mk [43])) ++ y523) ++ (ByteArray.mk (Array.mk [114])))))))))))
    (cond (a0.2.2 != (0 : Int))
     (cond (decide (a0.2.2 < (0 : Int)))
      (none)
      (Option.bind (g_impl_decimal (IntKind.wrap IntKind.i64 ((1 : Int) * ((2 : Int) ^ (Min.min (Int.toNat a0.2.2) 64))))) fun y526 =>
       cond (decide (((((ByteArray.size (ByteArray.mk (Array.mk [47]))) + (ByteArray.size y526)) : Nat) : Int) > (if (Bool.true = Bool.true) then (((2 : Int) ^ (64 - 1)) - (1 : Int)) else (((2 : Int) ^ 64) - (1 : Int)))))
       (none)
       (cond (decide (((((ByteArray.size y514) + (ByteArray.size ((ByteArray.mk (Array.mk [47])) ++ y526))) : Nat) : Int) > (if (Bool.true = Bool.true) then (((2 : Int) ^ (64 - 1)) - (1 : Int)) else (((2 : Int) ^ 64) - (1 : Int)))))
        (none)
        (kx (y514 ++ ((ByteArray.mk (Array.mk [47])) ++ y526))))))
     (kx y514))))
  (cond (a0.2.1 != (0 : Int))
   (cond (decide (a0.2.1 < (0 : Int)))
    (Option.bind (g_impl_abs a0.2.1) fun y527 =>
     Option.bind (g_impl_decimal y527) fun y528 =>
     cond (decide (((((ByteArray.size (ByteArray.mk (Array.mk [45]))) + (ByteArray.size y528)) : Nat) : Int) > (if (Bool.true = Bool.true) then (((2 : Int) ^ (64 - 1)) - (1 : Int)) else (((2 : Int) ^ 64) - (1 : Int)))))
     (none)
     (cond (decide (((((ByteArray.size ((ByteArray.mk (Array.mk [45])) ++ y528)) + (ByteArray.size (ByteArray.mk (Array.mk [114])))) : Nat) : Int) > (if (Bool.true = Bool.true) then (((2 : Int) ^ (64 - 1)) - (1 : Int)) else (((2 : Int) ^ 64) - (1 : Int)))))
      (none)
      (cond (decide (((((ByteArray.size y514) + (ByteArray.size (((ByteArray.mk (Array.mk [45])) ++ y528) ++ (ByteArray.mk (Array.mk [114]))))) : Nat) : Int) > (if (Bool.true = Bool.true) then (((2 : Int) ^ (64 - 1)) - (1 : Int)) else (((2 : Int) ^ 64) - (1 : Int)))))
       (none)
       (cond (a0.2.2 != (0 : Int))
        (cond (decide (((((ByteArray.size (ByteArray.mk (Array.mk [40]))) + (ByteArray.size (y514 ++ (((ByteArray.mk (Array.mk [45])) ++ y528) ++ (ByteArray.mk (Array.mk [114])))))) : Nat) : Int) > (if (Bool.true = Bool.true) then (((2 : Int) ^ (64 - 1)) - (1 : Int)) else (((2 : Int) ^ 64) - (1 : Int)))))
         (none)
         (cond (decide (((((ByteArray.size ((ByteArray.mk (Array.mk [40])) ++ (y514 ++ (((ByteArray.mk (Array.mk [45])) ++ y528) ++ (ByteArray.mk (Array.mk [114])))))) + (ByteArray.size (ByteArray.mk (Array.mk [41])))) : Nat) : Int) > (if (Bool.true = Bool.true) then (((2 : Int) ^ (64 - 1)) - (1 : Int)) else (((2 : Int) ^ 64) - (1 : Int)))))
          (none)
          (cond (a0.2.2 != (0 : Int))
           (cond (decide (a0.2.2 < (0 : Int)))
            (none)
            (Option.bind (g_impl_decimal (IntKind.wrap IntKind.i64 ((1 : Int) * ((2 : Int) ^ (Min.min (Int.toNat a0.2.2) 64))))) fun y529 =>
             cond (decide (((((ByteArray.size (ByteArray.mk (Array.mk [47]))) + (ByteArray.size y529)) : Nat) : Int) > (if (Bool.true = Bool.true) then (((2 : Int) ^ (64 - 1)) - (1 : Int)) else (((2 : Int) ^ 64) - (1 : Int)))))
             (none)
             (cond (decide (((((ByteArray.size (((ByteArray.mk (Array.mk [40])) ++ (y514 ++ (((ByteArray.mk (Array.mk [45])) ++ y528) ++ (ByteArray.mk (Array.mk [114]))))) ++ (ByteArray.mk (Array.mk [41])))) + (ByteArray.size ((ByteArray.mk (Array.mk [47])) ++ y529))) : Nat) : Int) > (if (Bool.true = Bool.true) then (((2 : Int) ^ (64 - 1)) - (1 : Int)) else (((2 : Int) ^ 64) - (1 : Int)))))
              (none)
              (kx ((((ByteArray.mk (Array.mk [40])) ++ (y514 ++ (((ByteArray.mk (Array.mk [45])) ++ y528) ++ (ByteArray.mk (Array.mk [114]))))) ++ (ByteArray.mk (Array.mk [41]))) ++ ((ByteArray.mk (Array.mk [47])) ++ y529))))))
           (kx (((ByteArray.mk (Array.mk [40])) ++ (y514 ++ (((ByteArray.mk (Array.mk [45])) ++ y528) ++ (ByteArray.mk (Array.mk [114]))))) ++ (ByteArray.mk (Array.mk [41])))))))
        (cond (a0.2.2 != (0 : Int))
         (cond (decide (a0.2.2 < (0 : Int)))
          (none)
          (Option.bind (g_impl_decimal (IntKind.wrap IntKind.i64 ((1 : Int) * ((2 : Int) ^ (Min.min (Int.toNat a0.2.2) 64))))) fun y530 =>
           cond (decide (((((ByteArray.size (ByteArray.mk (Array.mk [47]))) + (ByteArray.size y530)) : Nat) : Int) > (if (Bool.true = Bool.true) then (((2 : Int) ^ (64 - 1)) - (1 : Int)) else (((2 : Int) ^ 64) - (1 : Int)))))
           (none)
           (cond (decide (((((ByteArray.size (y514 ++ (((ByteArray.mk (Array.mk [45])) ++ y528) ++ (ByteArray.mk (Array.mk [114]))))) + (ByteArray.size ((ByteArray.mk (Array.mk [47])) ++ y530))) : Nat) : Int) > (if (Bool.true = Bool.true) then (((2 : Int) ^ (64 - 1)) - (1 : Int)) else (((2 : Int) ^ 64) - (1 : Int)))))
            (none)
            (kx ((y514 ++ (((ByteArray.mk (Array.mk [45])) ++ y528) ++ (ByteArray.mk (Array.mk [114])))) ++ ((ByteArray.mk (Array.mk [47])) ++ y530))))))
         (kx (y514 ++ (((ByteArray.mk (Array.mk [45])) ++ y528) ++ (ByteArray.mk (Array.mk [114]))))))))))
    (Option.bind (g_impl_abs a0.2.1) fun y531 =>
     Option.bind (g_impl_decimal y531) fun y532 =>
     cond (decide (((((ByteArray.size (ByteArray.mk (Array.mk [43]))) + (ByteArray.size y532)) : Nat) : Int) > (if (Bool.true = Bool.true) then (((2 : Int) ^ (64 - 1)) - (1 : Int)) else (((2 : Int) ^ 64) - (1 : Int)))))
     (none)
     (cond (decide (((((ByteArray.size ((ByteArray.mk (Array.mk [43])) ++ y532)) + (ByteArray.size (ByteArray.mk (Array.mk [114])))) : Nat) : Int) > (if (Bool.true = Bool.true) then (((2 : Int) ^ (64 - 1)) - (1 : Int)) else (((2 : Int) ^ 64) - (1 : Int)))))
      (none)
      (cond (decide (((((ByteArray.size y514) + (ByteArray.size (((ByteArray.mk (Array.mk [43])) ++ y532) ++ (ByteArray.mk (Array.mk [114]))))) : Nat) : Int) > (if (Bool.true = Bool.true) then (((2 : Int) ^ (64 - 1)) - (1 : Int)) else (((2 : Int) ^ 64) - (1 : Int)))))
       (none)
       (cond (a0.2.2 != (0 : Int))
        (cond (decide (((((ByteArray.size (ByteArray.mk (Array.mk [40]))) + (ByteArray.size (y514 ++ (((ByteArray.mk (Array.mk [43])) ++ y532) ++ (ByteArray.mk (Array.mk [114])))))) : Nat) : Int) > (if (Bool.true = Bool.true) then (((2 : Int) ^ (64 - 1)) - (1 : Int)) else (((2 : Int) ^ 64) - (1 : Int)))))
         (none)
         (cond (decide (((((ByteArray.size ((ByteArray.mk (Array.mk [40])) ++ (y514 ++ (((ByteArray.mk (Array.mk [43])) ++ y532) ++ (ByteArray.mk (Array.mk [114])))))) + (ByteArray.size (ByteArray.mk (Array.mk [41])))) : Nat) : Int) > (if (Bool.true = Bool.true) then (((2 : Int) ^ (64 - 1)) - (1 : Int)) else (((2 : Int) ^ 64) - (1 : Int)))))
          (none)
          (cond (a0.2.2 != (0 : Int))
           (cond (decide (a0.2.2 < (0 : Int)))
            (none)
            (Option.bind (g_impl_decimal (IntKind.wrap IntKind.i64 ((1 : Int) * ((2 : Int) ^ (Min.min (Int.toNat a0.2.2) 64))))) fun y533 =>
             cond (decide (((((ByteArray.size (ByteArray.mk (Array.mk [47]))) + (ByteArray.size y533)) : Nat) : Int) > (if (Bool.true = Bool.true) then (((2 : Int) ^ (64 - 1)) - (1 : Int)) else (((2 : Int) ^ 64) - (1 : Int)))))
             (none)
             (cond (decide (((((ByteArray.size (((ByteArray.mk (Array.mk [40])) ++ (y514 ++ (((ByteArray.mk (Array.mk [43])) ++ y532) ++ (ByteArray.mk (Array.mk [114]))))) ++ (ByteArray.mk (Array.mk [41])))) + (ByteArray.size ((ByteArray.mk (Array.mk [47])) ++ y533))) : Nat) : Int) > (if (Bool.true = Bool.true) then (((2 : Int) ^ (64 - 1)) - (1 : Int)) else (((2 : Int) ^ 64) - (1 : Int)))))
              (none)
              (kx ((((ByteArray.mk (Array.mk [40])) ++ (y514 ++ (((ByteArray.mk (Array.mk [43])) ++ y532) ++ (ByteArray.mk (Array.mk [114]))))) ++ (ByteArray.mk (Array.mk [41]))) ++ ((ByteArray.mk (Array.mk [47])) ++ y533))))))
           (kx (((ByteArray.mk (Array.mk [40])) ++ (y514 ++ (((ByteArray.mk (Array.mk [43])) ++ y532) ++ (ByteArray.mk (Array.mk [114]))))) ++ (ByteArray.mk (Array.mk [41])))))))
        (cond (a0.2.2 != (0 : Int))
         (cond (decide (a0.2.2 < (0 : Int)))
          (none)
          (Option.bind (g_impl_decimal (IntKind.wrap IntKind.i64 ((1 : Int) * ((2 : Int) ^ (Min.min (Int.toNat a0.2.2) 64))))) fun y534 =>
           cond (decide (((((ByteArray.size (ByteArray.mk (Array.mk [47]))) + (ByteArray.size y534)) : Nat) : Int) > (if (Bool.true = Bool.true) then (((2 : Int) ^ (64 - 1)) - (1 : Int)) else (((2 : Int) ^ 64) - (1 : Int)))))
           (none)
           (cond (decide (((((ByteArray.size (y514 ++ (((ByteArray.mk (Array.mk [43])) ++ y532) ++ (ByteArray.mk (Array.mk [114]))))) + (ByteArray.size ((ByteArray.mk (Array.mk [47])) ++ y534))) : Nat) : Int) > (if (Bool.true = Bool.true) then (((2 : Int) ^ (64 - 1)) - (1 : Int)) else (((2 : Int) ^ 64) - (1 : Int)))))
            (none)
            (kx ((y514 ++ (((ByteArray.mk (Array.mk [43])) ++ y532) ++ (ByteArray.mk (Array.mk [114])))) ++ ((ByteArray.mk (Array.mk [47])) ++ y534))))))
         (kx (y514 ++ (((ByteArray.mk (Array.mk [43])) ++ y532) ++ (ByteArray.mk (Array.mk [114])))))))))))
   (cond (a0.2.2 != (0 : Int))
    (cond (decide (a0.2.2 < (0 : Int)))
     (none)
     (Option.bind (g_impl_decimal (IntKind.wrap IntKind.i64 ((1 : Int) * ((2 : Int) ^ (Min.min (Int.toNat a0.2.2) 64))))) fun y535 =>
      cond (decide (((((ByteArray.size (ByteArray.mk (Array.mk [47]))) + (ByteArray.size y535)) : Nat) : Int) > (if (Bool.true = Bool.true) then (((2 : Int) ^ (64 - 1)) - (1 : Int)) else (((2 : Int) ^ 64) - (1 : Int)))))
      (none)
      (cond (decide (((((ByteArray.size y514) + (ByteArray.size ((ByteArray.mk (Array.mk [47])) ++ y535))) : Nat) : Int) > (if (Bool.true = Bool.true) then (((2 : Int) ^ (64 - 1)) - (1 : Int)) else (((2 : Int) ^ 64) - (1 : Int)))))
       (none)
       (kx (y514 ++ ((ByteArray.mk (Array.mk [47])) ++ y535))))))
    (kx y514)))
noncomputable def g_impl_numText (a0 : (Int × (Int × Int))) : Option (ByteArray) := t_impl_numText some a0
theorem nat_impl_numText {R : Type} (kx : ByteArray → Option R) (a0 : (Int × (Int × Int))) : t_impl_numText kx a0 = (g_impl_numText a0).bind kx := by
  unfold g_impl_numText t_impl_numText
  exact nat_bind fun _ => nat_cond (nat_cond (nat_bind fun _ => nat_cond (rfl) (nat_cond (nat_cond (rfl) (nat_bind fun _ => nat_cond (rfl) (nat_cond (rfl) (rfl)))) (rfl))) (nat_cond (nat_cond (nat_bind fun _ => nat_bind fun _ => nat_cond (rfl) (nat_cond (rfl) (nat_cond (rfl) (nat_cond (nat_cond (rfl) (nat_cond (rfl) (nat_cond (nat_cond (rfl) (nat_bind fun _ => nat_cond (rfl) (nat_cond (rfl) (rfl)))) (rfl)))) (nat_cond (nat_cond (rfl) (nat_bind fun _ => nat_cond (rfl) (nat_cond (rfl) (rfl)))) (rfl)))))) (nat_bind fun _ => nat_bind fun _ => nat_cond (rfl) (nat_cond (rfl) (nat_cond (rfl) (nat_cond (nat_cond (rfl) (nat_cond (rfl) (nat_cond (nat_cond (rfl) (nat_bind fun _ => nat_cond (rfl) (nat_cond (rfl) (rfl)))) (rfl)))) (nat_cond (nat_cond (rfl) (nat_bind fun _ => nat_cond (rfl) (nat_cond (rfl) (rfl)))) (rfl))))))) (nat_cond (nat_cond (rfl) (nat_bind fun _ => nat_cond (rfl) (nat_cond (rfl) (rfl)))) (rfl)))) (nat_cond (nat_cond (nat_bind fun _ => nat_bind fun _ => nat_cond (rfl) (nat_cond (rfl) (nat_cond (rfl) (nat_cond (nat_cond (rfl) (nat_cond (rfl) (nat_cond (nat_cond (rfl) (nat_bind fun _ => nat_cond (rfl) (nat_cond (rfl) (rfl)))) (rfl)))) (nat_cond (nat_cond (rfl) (nat_bind fun _ => nat_cond (rfl) (nat_cond (rfl) (rfl)))) (rfl)))))) (nat_bind fun _ => nat_bind fun _ => nat_cond (rfl) (nat_cond (rfl) (nat_cond (rfl) (nat_cond (nat_cond (rfl) (nat_cond (rfl) (nat_cond (nat_cond (rfl) (nat_bind fun _ => nat_cond (rfl) (nat_cond (rfl) (rfl)))) (rfl)))) (nat_cond (nat_cond (rfl) (nat_bind fun _ => nat_cond (rfl) (nat_cond (rfl) (rfl)))) (rfl))))))) (nat_cond (nat_cond (rfl) (nat_bind fun _ => nat_cond (rfl) (nat_cond (rfl) (rfl)))) (rfl)))
abbrev as_impl_numText : List AX := [.val true (.pair (.int .i64) (.pair (.int .i64) (.int .i64)))]
abbrev en_impl_numText : ByteArray → AV × List CV := fun b => (.one ⟨false, [(.v (.string b))]⟩, [])
noncomputable abbrev k_impl_numText : Contract := .fx as_impl_numText (ByteArray) (fun z => g_impl_numText z.1) en_impl_numText
theorem r_impl_numText (z : argsX as_impl_numText) : runF (tab C0 T_impl_numText) noHints 1 Tryd.f143 (lentOf as_impl_numText) (xBoxes as_impl_numText z) (xVals as_impl_numText 0 z) K2 = t_impl_numText (fun b => some (en_impl_numText b)) z.1 := by kernel_rfl
theorem so_impl_numText : Sound C0 143 k_impl_numText :=
  Sound.fx a_impl_numText mixed Tryd.func143 (by kernel_rfl) (by kernel_rfl) noHints 1 noHints_ok (fun z => (r_impl_numText z).trans (nat_impl_numText _ z.1))

/-! ### F98 impl.pointText -/
noncomputable def T_impl_pointText : List (FuncId × Contract) := [(143, k_impl_numText)]
theorem a_impl_pointText : AllSound C0 T_impl_pointText := .cons so_impl_numText (.nil)
noncomputable def t_impl_pointText {R : Type} (kx : ByteArray → Option R) (a0 : ((Int × (Int × Int)) × (Int × (Int × Int)))) : Option R :=
  Option.bind (g_impl_numText a0.1) fun y536 =>
  cond (decide (((((ByteArray.size (ByteArray.mk (Array.mk [40]))) + (ByteArray.size y536)) : Nat) : Int) > (if (Bool.true = Bool.true) then (((2 : Int) ^ (64 - 1)) - (1 : Int)) else (((2 : Int) ^ 64) - (1 : Int)))))
  (none)
  (cond (decide (((((ByteArray.size ((ByteArray.mk (Array.mk [40])) ++ y536)) + (ByteArray.size (ByteArray.mk (Array.mk [44])))) : Nat) : Int) > (if (Bool.true = Bool.true) then (((2 : Int) ^ (64 - 1)) - (1 : Int)) else (((2 : Int) ^ 64) - (1 : Int)))))
   (none)
   (Option.bind (g_impl_numText a0.2) fun y537 =>
    cond (decide (((((ByteArray.size (((ByteArray.mk (Array.mk [40])) ++ y536) ++ (ByteArray.mk (Array.mk [44])))) + (ByteArray.size y537)) : Nat) : Int) > (if (Bool.true = Bool.true) then (((2 : Int) ^ (64 - 1)) - (1 : Int)) else (((2 : Int) ^ 64) - (1 : Int)))))
    (none)
    (cond (decide (((((ByteArray.size ((((ByteArray.mk (Array.mk [40])) ++ y536) ++ (ByteArray.mk (Array.mk [44]))) ++ y537)) + (ByteArray.size (ByteArray.mk (Array.mk [41])))) : Nat) : Int) > (if (Bool.true = Bool.true) then (((2 : Int) ^ (64 - 1)) - (1 : Int)) else (((2 : Int) ^ 64) - (1 : Int)))))
     (none)
     (kx (((((ByteArray.mk (Array.mk [40])) ++ y536) ++ (ByteArray.mk (Array.mk [44]))) ++ y537) ++ (ByteArray.mk (Array.mk [41])))))))
noncomputable def g_impl_pointText (a0 : ((Int × (Int × Int)) × (Int × (Int × Int)))) : Option (ByteArray) := t_impl_pointText some a0
theorem nat_impl_pointText {R : Type} (kx : ByteArray → Option R) (a0 : ((Int × (Int × Int)) × (Int × (Int × Int)))) : t_impl_pointText kx a0 = (g_impl_pointText a0).bind kx := by
  unfold g_impl_pointText t_impl_pointText
  exact nat_bind fun _ => nat_cond (rfl) (nat_cond (rfl) (nat_bind fun _ => nat_cond (rfl) (nat_cond (rfl) (rfl))))
abbrev as_impl_pointText : List AX := [.val true (.pair (.pair (.int .i64) (.pair (.int .i64) (.int .i64))) (.pair (.int .i64) (.pair (.int .i64) (.int .i64))))]
abbrev en_impl_pointText : ByteArray → AV × List CV := fun b => (.one ⟨false, [(.v (.string b))]⟩, [])
noncomputable abbrev k_impl_pointText : Contract := .fx as_impl_pointText (ByteArray) (fun z => g_impl_pointText z.1) en_impl_pointText
theorem r_impl_pointText (z : argsX as_impl_pointText) : runF (tab C0 T_impl_pointText) noHints 1 Tryd.f98 (lentOf as_impl_pointText) (xBoxes as_impl_pointText z) (xVals as_impl_pointText 0 z) K2 = t_impl_pointText (fun b => some (en_impl_pointText b)) z.1 := by kernel_rfl
theorem so_impl_pointText : Sound C0 98 k_impl_pointText :=
  Sound.fx a_impl_pointText mixed Tryd.func98 (by kernel_rfl) (by kernel_rfl) noHints 1 noHints_ok (fun z => (r_impl_pointText z).trans (nat_impl_pointText _ z.1))

/-! ### F99 impl.lineText -/
noncomputable def T_impl_lineText : List (FuncId × Contract) := [(100, k_impl_decimal), (143, k_impl_numText)]
theorem a_impl_lineText : AllSound C0 T_impl_lineText := .cons so_impl_decimal (.cons so_impl_numText (.nil))
noncomputable def t_impl_lineText {R : Type} (kx : ByteArray → Option R) (a0 : (Int × (Int × (Int × Int)))) : Option R :=
  Option.bind (g_impl_decimal a0.1) fun y541 =>
  cond (decide (((((ByteArray.size y541) + (ByteArray.size (ByteArray.mk (Array.mk [64])))) : Nat) : Int) > (if (Bool.true = Bool.true) then (((2 : Int) ^ (64 - 1)) - (1 : Int)) else (((2 : Int) ^ 64) - (1 : Int)))))
  (none)
  (Option.bind (g_impl_numText a0.2) fun y542 =>
   cond (decide (((((ByteArray.size (y541 ++ (ByteArray.mk (Array.mk [64])))) + (ByteArray.size y542)) : Nat) : Int) > (if (Bool.true = Bool.true) then (((2 : Int) ^ (64 - 1)) - (1 : Int)) else (((2 : Int) ^ 64) - (1 : Int)))))
   (none)
   (kx ((y541 ++ (ByteArray.mk (Array.mk [64]))) ++ y542)))
noncomputable def g_impl_lineText (a0 : (Int × (Int × (Int × Int)))) : Option (ByteArray) := t_impl_lineText some a0
theorem nat_impl_lineText {R : Type} (kx : ByteArray → Option R) (a0 : (Int × (Int × (Int × Int)))) : t_impl_lineText kx a0 = (g_impl_lineText a0).bind kx := by
  unfold g_impl_lineText t_impl_lineText
  exact nat_bind fun _ => nat_cond (rfl) (nat_bind fun _ => nat_cond (rfl) (rfl))
abbrev as_impl_lineText : List AX := [.val true (.pair (.int .i64) (.pair (.int .i64) (.pair (.int .i64) (.int .i64))))]
abbrev en_impl_lineText : ByteArray → AV × List CV := fun b => (.one ⟨false, [(.v (.string b))]⟩, [])
noncomputable abbrev k_impl_lineText : Contract := .fx as_impl_lineText (ByteArray) (fun z => g_impl_lineText z.1) en_impl_lineText
theorem r_impl_lineText (z : argsX as_impl_lineText) : runF (tab C0 T_impl_lineText) noHints 1 Tryd.f99 (lentOf as_impl_lineText) (xBoxes as_impl_lineText z) (xVals as_impl_lineText 0 z) K2 = t_impl_lineText (fun b => some (en_impl_lineText b)) z.1 := by kernel_rfl
theorem so_impl_lineText : Sound C0 99 k_impl_lineText :=
  Sound.fx a_impl_lineText mixed Tryd.func99 (by kernel_rfl) (by kernel_rfl) noHints 1 noHints_ok (fun z => (r_impl_lineText z).trans (nat_impl_lineText _ z.1))

/-! ### F58 impl.constructionText -/
noncomputable def T_impl_constructionText : List (FuncId × Contract) := [(98, k_impl_pointText), (101, k_strings_Join), (99, k_impl_lineText), (100, k_impl_decimal)]
theorem a_impl_constructionText : AllSound C0 T_impl_constructionText := .cons so_impl_pointText (.cons so_strings_Join (.cons so_impl_lineText (.cons so_impl_decimal (.nil))))
noncomputable def t_impl_constructionText {R : Type} (kx : ByteArray → Option R) (a0 : (ByteArray × (Int × ((List ByteArray) × (Int × (((Int × (Int × Int)) × (Int × (Int × Int))) × (Int × (Int × (Int × Int))))))))) : Option R :=
  Option.bind (idx [((ByteArray.mk (Array.mk [])), ((ByteArray.mk (Array.mk [])), Bool.false)), ((ByteArray.mk (Array.mk [112, 111, 105, 110, 116])), ((ByteArray.mk (Array.mk [])), Bool.false)), ((ByteArray.mk (Array.mk [108, 105, 110, 101])), ((ByteArray.mk (Array.mk [])), Bool.false)), ((ByteArray.mk (Array.mk [109, 101, 101, 116])), ((ByteArray.mk (Array.mk [108, 108])), Bool.false)), ((ByteArray.mk (Array.mk [109, 105, 100, 100, 108, 101])), ((ByteArray.mk (Array.mk [112, 112])), Bool.false)), ((ByteArray.mk (Array.mk [109, 105, 114, 114, 111, 114])), ((ByteArray.mk (Array.mk [108, 120])), Bool.false)), ((ByteArray.mk (Array.mk [116, 104, 114, 111, 117, 103, 104])), ((ByteArray.mk (Array.mk [112, 112])), Bool.false)), ((ByteArray.mk (Array.mk [111, 110, 116, 111])), ((ByteArray.mk (Array.mk [112, 112])), Bool.false)), ((ByteArray.mk (Array.mk [98, 105, 115, 101, 99, 116])), ((ByteArray.mk (Array.mk [108, 108])), Bool.true)), ((ByteArray.mk (Array.mk [115, 113, 117, 97, 114, 101])), ((ByteArray.mk (Array.mk [108, 112])), Bool.false)), ((ByteArray.mk (Array.mk [102, 111, 108, 100])), ((ByteArray.mk (Array.mk [112, 108, 112])), Bool.true)), ((ByteArray.mk (Array.mk [116, 119, 111])), ((ByteArray.mk (Array.mk [112, 108, 112, 108])), Bool.true)), ((ByteArray.mk (Array.mk [97, 99, 114, 111, 115, 115])), ((ByteArray.mk (Array.mk [112, 108, 108])), Bool.false))] a0.2.1) fun y509 =>
  cond (decide ((((List.length [a0.1, (ByteArray.mk (Array.mk [61])), y509.1]) + (List.length a0.2.2.1)) * 16) ≤ 70368744177664))
  (cond (decide (((List.length [a0.1, (ByteArray.mk (Array.mk [61])), y509.1]) + (List.length a0.2.2.1)) ≤ 70368744177664))
   (cond (a0.2.1 == (1 : Int))
    (Option.bind (g_impl_pointText a0.2.2.2.2.1) fun y538 =>
     cond (decide ((((List.length ([a0.1, (ByteArray.mk (Array.mk [61])), y509.1] ++ a0.2.2.1)) + (List.length [y538])) * 16) ≤ 70368744177664))
     (cond (decide (((List.length ([a0.1, (ByteArray.mk (Array.mk [61])), y509.1] ++ a0.2.2.1)) + (List.length [y538])) ≤ 70368744177664))
      (Option.bind (g_strings_Join (([a0.1, (ByteArray.mk (Array.mk [61])), y509.1] ++ a0.2.2.1) ++ [y538]) (ByteArray.mk (Array.mk [32]))) fun y539 =>
       kx y539)
      (none))
     (none))
    (cond (a0.2.1 == (2 : Int))
     (Option.bind (g_impl_lineText a0.2.2.2.2.2) fun y543 =>
      cond (decide ((((List.length ([a0.1, (ByteArray.mk (Array.mk [61])), y509.1] ++ a0.2.2.1)) + (List.length [y543])) * 16) ≤ 70368744177664))
      (cond (decide (((List.length ([a0.1, (ByteArray.mk (Array.mk [61])), y509.1] ++ a0.2.2.1)) + (List.length [y543])) ≤ 70368744177664))
       (Option.bind (g_strings_Join (([a0.1, (ByteArray.mk (Array.mk [61])), y509.1] ++ a0.2.2.1) ++ [y543]) (ByteArray.mk (Array.mk [32]))) fun y544 =>
        kx y544)
       (none))
      (none))
     (cond y509.2.2
      (Option.bind (g_impl_decimal a0.2.2.2.1) fun y545 =>
       cond (decide ((((List.length ([a0.1, (ByteArray.mk (Array.mk [61])), y509.1] ++ a0.2.2.1)) + (List.length [y545])) * 16) ≤ 70368744177664))
       (cond (decide (((List.length ([a0.1, (ByteArray.mk (Array.mk [61])), y509.1] ++ a0.2.2.1)) + (List.length [y545])) ≤ 70368744177664))
        (Option.bind (g_strings_Join (([a0.1, (ByteArray.mk (Array.mk [61])), y509.1] ++ a0.2.2.1) ++ [y545]) (ByteArray.mk (Array.mk [32]))) fun y546 =>
         kx y546)
        (none))
       (none))
      (Option.bind (g_strings_Join ([a0.1, (ByteArray.mk (Array.mk [61])), y509.1] ++ a0.2.2.1) (ByteArray.mk (Array.mk [32]))) fun y547 =>
       kx y547))))
   (none))
  (none)
noncomputable def g_impl_constructionText (a0 : (ByteArray × (Int × ((List ByteArray) × (Int × (((Int × (Int × Int)) × (Int × (Int × Int))) × (Int × (Int × (Int × Int))))))))) : Option (ByteArray) := t_impl_constructionText some a0
theorem nat_impl_constructionText {R : Type} (kx : ByteArray → Option R) (a0 : (ByteArray × (Int × ((List ByteArray) × (Int × (((Int × (Int × Int)) × (Int × (Int × Int))) × (Int × (Int × (Int × Int))))))))) : t_impl_constructionText kx a0 = (g_impl_constructionText a0).bind kx := by
  unfold g_impl_constructionText t_impl_constructionText
  exact nat_bind fun _ => nat_cond (nat_cond (nat_cond (nat_bind fun _ => nat_cond (nat_cond (nat_bind fun _ => rfl) (rfl)) (rfl)) (nat_cond (nat_bind fun _ => nat_cond (nat_cond (nat_bind fun _ => rfl) (rfl)) (rfl)) (nat_cond (nat_bind fun _ => nat_cond (nat_cond (nat_bind fun _ => rfl) (rfl)) (rfl)) (nat_bind fun _ => rfl)))) (rfl)) (rfl)
abbrev as_impl_constructionText : List AX := [.val true (.pair .str (.pair (.int .i64) (.pair (.slice .str) (.pair (.int .i64) (.pair (.pair (.pair (.int .i64) (.pair (.int .i64) (.int .i64))) (.pair (.int .i64) (.pair (.int .i64) (.int .i64)))) (.pair (.int .i64) (.pair (.int .i64) (.pair (.int .i64) (.int .i64)))))))))]
abbrev en_impl_constructionText : ByteArray → AV × List CV := fun b => (.one ⟨false, [(.v (.string b))]⟩, [])
noncomputable abbrev k_impl_constructionText : Contract := .fx as_impl_constructionText (ByteArray) (fun z => g_impl_constructionText z.1) en_impl_constructionText
theorem r_impl_constructionText (z : argsX as_impl_constructionText) : runF (tab C0 T_impl_constructionText) noHints 1 Tryd.f58 (lentOf as_impl_constructionText) (xBoxes as_impl_constructionText z) (xVals as_impl_constructionText 0 z) K2 = t_impl_constructionText (fun b => some (en_impl_constructionText b)) z.1 := by kernel_rfl
theorem so_impl_constructionText : Sound C0 58 k_impl_constructionText :=
  Sound.fx a_impl_constructionText mixed Tryd.func58 (by kernel_rfl) (by kernel_rfl) noHints 1 noHints_ok (fun z => (r_impl_constructionText z).trans (nat_impl_constructionText _ z.1))

/-! ### F22 impl.ConstructionText -/
noncomputable def T_impl_ConstructionText : List (FuncId × Contract) := [(16, k_impl_ValidConstruction), (58, k_impl_constructionText)]
theorem a_impl_ConstructionText : AllSound C0 T_impl_ConstructionText := .cons so_impl_ValidConstruction (.cons so_impl_constructionText (.nil))
noncomputable def t_impl_ConstructionText {R : Type} (kx : ByteArray → Option R) (a0 : (ByteArray × (Int × ((List ByteArray) × (Int × (((Int × (Int × Int)) × (Int × (Int × Int))) × (Int × (Int × (Int × Int))))))))) : Option R :=
  Option.bind (g_impl_ValidConstruction a0) fun y507 =>
  cond (!y507)
  (kx (ByteArray.mk (Array.mk [])))
  (Option.bind (g_impl_constructionText a0) fun y548 =>
   kx y548)
noncomputable def g_impl_ConstructionText (a0 : (ByteArray × (Int × ((List ByteArray) × (Int × (((Int × (Int × Int)) × (Int × (Int × Int))) × (Int × (Int × (Int × Int))))))))) : Option (ByteArray) := t_impl_ConstructionText some a0
theorem nat_impl_ConstructionText {R : Type} (kx : ByteArray → Option R) (a0 : (ByteArray × (Int × ((List ByteArray) × (Int × (((Int × (Int × Int)) × (Int × (Int × Int))) × (Int × (Int × (Int × Int))))))))) : t_impl_ConstructionText kx a0 = (g_impl_ConstructionText a0).bind kx := by
  unfold g_impl_ConstructionText t_impl_ConstructionText
  exact nat_bind fun _ => nat_cond (rfl) (nat_bind fun _ => rfl)
abbrev as_impl_ConstructionText : List AX := [.val true (.pair .str (.pair (.int .i64) (.pair (.slice .str) (.pair (.int .i64) (.pair (.pair (.pair (.int .i64) (.pair (.int .i64) (.int .i64))) (.pair (.int .i64) (.pair (.int .i64) (.int .i64)))) (.pair (.int .i64) (.pair (.int .i64) (.pair (.int .i64) (.int .i64)))))))))]
abbrev en_impl_ConstructionText : ByteArray → AV × List CV := fun b => (.one ⟨false, [(.v (.string b))]⟩, [])
noncomputable abbrev k_impl_ConstructionText : Contract := .fx as_impl_ConstructionText (ByteArray) (fun z => g_impl_ConstructionText z.1) en_impl_ConstructionText
theorem r_impl_ConstructionText (z : argsX as_impl_ConstructionText) : runF (tab C0 T_impl_ConstructionText) noHints 1 Tryd.f22 (lentOf as_impl_ConstructionText) (xBoxes as_impl_ConstructionText z) (xVals as_impl_ConstructionText 0 z) K2 = t_impl_ConstructionText (fun b => some (en_impl_ConstructionText b)) z.1 := by kernel_rfl
theorem so_impl_ConstructionText : Sound C0 22 k_impl_ConstructionText :=
  Sound.fx a_impl_ConstructionText mixed Tryd.func22 (by kernel_rfl) (by kernel_rfl) noHints 1 noHints_ok (fun z => (r_impl_ConstructionText z).trans (nat_impl_ConstructionText _ z.1))

/-! ### F53 laws.eqStringS -/
noncomputable def T_laws_eqStringS : List (FuncId × Contract) := []
theorem a_laws_eqStringS : AllSound C0 T_laws_eqStringS := .nil
abbrev s_laws_eqStringS_5 : LS := ⟨[(false, [(.sl .str)]), (false, [(.sl .str)]), (false, [(.int .i64)])], [], []⟩
abbrev e_laws_eqStringS_5_0 : LS := ⟨[(false, [.bool])], [], []⟩
abbrev d_laws_eqStringS_5_0 (v0 : Bool) : e_laws_eqStringS_5_0.T := (((v0, ()), ()), (), ())
abbrev e_laws_eqStringS_5_1 : LS := ⟨[(false, [.undef])], [], []⟩
abbrev d_laws_eqStringS_5_1 : e_laws_eqStringS_5_1.T := ((((), ()), ()), (), ())
abbrev x_laws_eqStringS_5 : List (Ex × LS) := [(.ret, e_laws_eqStringS_5_0), (.exit 0, e_laws_eqStringS_5_1)]
abbrev m_laws_eqStringS_5 (x0 : List ByteArray) (x1 : List ByteArray) (x5 : Int) : s_laws_eqStringS_5.T := (((x0, ()), (x1, ()), (x5, ()), ()), (), ())
noncomputable def u_laws_eqStringS_5 {R : Type} (nx : s_laws_eqStringS_5.T → Option R) (hx : exH R x_laws_eqStringS_5) (x0 : List ByteArray) (x1 : List ByteArray) (x5 : Int) : Option R :=
  cond (decide (x5 < (((List.length x0) : Nat) : Int)))
  (Option.bind (idx x0 x5) fun y558 =>
   Option.bind (idx x1 x5) fun y559 =>
   cond (!((ByteArray.toList y558) == (ByteArray.toList y559)))
   (hx.1 (d_laws_eqStringS_5_0 Bool.false))
   (nx (m_laws_eqStringS_5 x0 x1 (IntKind.wrap IntKind.i64 (x5 + (1 : Int))))))
  (hx.2.1 (d_laws_eqStringS_5_1))
noncomputable def t_laws_eqStringS_5 {R : Type} (nx : s_laws_eqStringS_5.T → Option R) (hx : exH R x_laws_eqStringS_5) (z : s_laws_eqStringS_5.T) : Option R := u_laws_eqStringS_5 nx hx z.1.1.1 z.1.2.1.1 z.1.2.2.1.1
theorem nat_laws_eqStringS_5 : Natural @t_laws_eqStringS_5 := fun R nx hx z => by
  show u_laws_eqStringS_5 nx hx z.1.1.1 z.1.2.1.1 z.1.2.2.1.1 = (u_laws_eqStringS_5 (fun y => some (.inl y)) (hIn x_laws_eqStringS_5 fun x => some (.inr x)) z.1.1.1 z.1.2.1.1 z.1.2.2.1.1).bind (goOn nx hx)
  unfold u_laws_eqStringS_5
  exact nat_cond (nat_bind fun _ => nat_bind fun _ => nat_cond (rfl) (rfl)) (rfl)
noncomputable def w_laws_eqStringS_5 : s_laws_eqStringS_5.T → Option (exT x_laws_eqStringS_5) := wOf @t_laws_eqStringS_5
theorem wq_laws_eqStringS_5 (x0 : List ByteArray) (x1 : List ByteArray) (x5 : Int) : w_laws_eqStringS_5 (m_laws_eqStringS_5 x0 x1 x5) = u_laws_eqStringS_5 w_laws_eqStringS_5 (hIn x_laws_eqStringS_5 some) x0 x1 x5 := wOf_eq nat_laws_eqStringS_5 _
def lh_laws_eqStringS_5 : LoopHint := ⟨[0, 1, 5], [], [4], []⟩
noncomputable def h_laws_eqStringS : Hints Rv := ⟨fun k => match k with | 5 => lh_laws_eqStringS_5 | _ => ⟨[], [], [], []⟩, fun k => match k with | 5 => some (loopX s_laws_eqStringS_5 x_laws_eqStringS_5 w_laws_eqStringS_5) | _ => none⟩
theorem st_laws_eqStringS_5 (n : Nat) (z : s_laws_eqStringS_5.T) (k : Ex → Live → Option Rv) : loopN ⟨26, 26⟩ lh_laws_eqStringS_5 (den (tab C0 T_laws_eqStringS) ⟨26, 26⟩ h_laws_eqStringS 1 (loopOf Tryd.f53 4)) (n + 1) (s_laws_eqStringS_5.enc z) k =
    t_laws_eqStringS_5 (fun y => loopN ⟨26, 26⟩ lh_laws_eqStringS_5 (den (tab C0 T_laws_eqStringS) ⟨26, 26⟩ h_laws_eqStringS 1 (loopOf Tryd.f53 4)) n (s_laws_eqStringS_5.enc y) k) (hK k x_laws_eqStringS_5) z := by kernel_rfl
theorem hs_laws_eqStringS : HintsOk (tab C0 T_laws_eqStringS) ⟨26, 26⟩ h_laws_eqStringS 1 (loops (codeOf Tryd.f53)) := by
  have hl : loops (codeOf Tryd.f53) = [loopOf Tryd.f53 4] := by kernel_rfl
  rw [hl]
  exact HintsOk.cons (n := 5) (lh := lh_laws_eqStringS_5) (S := loopX s_laws_eqStringS_5 x_laws_eqStringS_5 w_laws_eqStringS_5) (by kernel_rfl) rfl rfl (loopX_ok nat_laws_eqStringS_5 st_laws_eqStringS_5)
    (HintsOk.nil)
noncomputable def t_laws_eqStringS {R : Type} (kx : Bool → Option R) (a0 : (List ByteArray)) (a1 : (List ByteArray)) : Option R :=
  cond ((((List.length a0) : Nat) : Int) != (((List.length a1) : Nat) : Int))
  (kx Bool.false)
  (Option.bind (w_laws_eqStringS_5 (m_laws_eqStringS_5 a0 a1 (0 : Int))) (exC x_laws_eqStringS_5
   (fun e560 =>
    kx (e560.1.1.1 : Bool), fun _ =>
    kx Bool.true, ())))
noncomputable def g_laws_eqStringS (a0 : (List ByteArray)) (a1 : (List ByteArray)) : Option (Bool) := t_laws_eqStringS some a0 a1
theorem nat_laws_eqStringS {R : Type} (kx : Bool → Option R) (a0 : (List ByteArray)) (a1 : (List ByteArray)) : t_laws_eqStringS kx a0 a1 = (g_laws_eqStringS a0 a1).bind kx := by
  unfold g_laws_eqStringS t_laws_eqStringS
  exact nat_cond (rfl) (nat_exC ⟨fun _ => rfl, fun _ => rfl, trivial⟩)
abbrev as_laws_eqStringS : List AX := [.val false (.slice .str), .val false (.slice .str)]
abbrev en_laws_eqStringS : Bool → AV × List CV := fun b => (.one ⟨false, [(.v (.bool b))]⟩, [])
noncomputable abbrev k_laws_eqStringS : Contract := .fx as_laws_eqStringS (Bool) (fun z => g_laws_eqStringS z.1 z.2.1) en_laws_eqStringS
theorem r_laws_eqStringS (z : argsX as_laws_eqStringS) : runF (tab C0 T_laws_eqStringS) h_laws_eqStringS 1 Tryd.f53 (lentOf as_laws_eqStringS) (xBoxes as_laws_eqStringS z) (xVals as_laws_eqStringS 0 z) K2 = t_laws_eqStringS (fun b => some (en_laws_eqStringS b)) z.1 z.2.1 := by kernel_rfl
theorem so_laws_eqStringS : Sound C0 53 k_laws_eqStringS :=
  Sound.fx a_laws_eqStringS mixed Tryd.func53 (by kernel_rfl) (by kernel_rfl) h_laws_eqStringS 1 hs_laws_eqStringS (fun z => (r_laws_eqStringS z).trans (nat_laws_eqStringS _ z.1 z.2.1))

/-! ### F93 laws.eqNum -/
noncomputable def T_laws_eqNum : List (FuncId × Contract) := []
theorem a_laws_eqNum : AllSound C0 T_laws_eqNum := .nil
noncomputable def t_laws_eqNum {R : Type} (kx : Bool → Option R) (a0 : (Int × (Int × Int))) (a1 : (Int × (Int × Int))) : Option R :=
  cond (a0.1 != a1.1)
  (kx Bool.false)
  (cond (a0.2.1 != a1.2.1)
   (kx Bool.false)
   (cond (a0.2.2 != a1.2.2)
    (kx Bool.false)
    (kx Bool.true)))
noncomputable def g_laws_eqNum (a0 : (Int × (Int × Int))) (a1 : (Int × (Int × Int))) : Option (Bool) := t_laws_eqNum some a0 a1
theorem nat_laws_eqNum {R : Type} (kx : Bool → Option R) (a0 : (Int × (Int × Int))) (a1 : (Int × (Int × Int))) : t_laws_eqNum kx a0 a1 = (g_laws_eqNum a0 a1).bind kx := by
  unfold g_laws_eqNum t_laws_eqNum
  exact nat_cond (rfl) (nat_cond (rfl) (nat_cond (rfl) (rfl)))
abbrev as_laws_eqNum : List AX := [.val true (.pair (.int .i64) (.pair (.int .i64) (.int .i64))), .val true (.pair (.int .i64) (.pair (.int .i64) (.int .i64)))]
abbrev en_laws_eqNum : Bool → AV × List CV := fun b => (.one ⟨false, [(.v (.bool b))]⟩, [])
noncomputable abbrev k_laws_eqNum : Contract := .fx as_laws_eqNum (Bool) (fun z => g_laws_eqNum z.1 z.2.1) en_laws_eqNum
theorem r_laws_eqNum (z : argsX as_laws_eqNum) : runF (tab C0 T_laws_eqNum) noHints 1 Tryd.f93 (lentOf as_laws_eqNum) (xBoxes as_laws_eqNum z) (xVals as_laws_eqNum 0 z) K2 = t_laws_eqNum (fun b => some (en_laws_eqNum b)) z.1 z.2.1 := by kernel_rfl
theorem so_laws_eqNum : Sound C0 93 k_laws_eqNum :=
  Sound.fx a_laws_eqNum mixed Tryd.func93 (by kernel_rfl) (by kernel_rfl) noHints 1 noHints_ok (fun z => (r_laws_eqNum z).trans (nat_laws_eqNum _ z.1 z.2.1))

/-! ### F54 laws.eqPoint -/
noncomputable def T_laws_eqPoint : List (FuncId × Contract) := [(93, k_laws_eqNum)]
theorem a_laws_eqPoint : AllSound C0 T_laws_eqPoint := .cons so_laws_eqNum (.nil)
noncomputable def t_laws_eqPoint {R : Type} (kx : Bool → Option R) (a0 : ((Int × (Int × Int)) × (Int × (Int × Int)))) (a1 : ((Int × (Int × Int)) × (Int × (Int × Int)))) : Option R :=
  Option.bind (g_laws_eqNum a0.1 a1.1) fun y568 =>
  cond (!y568)
  (kx Bool.false)
  (Option.bind (g_laws_eqNum a0.2 a1.2) fun y569 =>
   cond (!y569)
   (kx Bool.false)
   (kx Bool.true))
noncomputable def g_laws_eqPoint (a0 : ((Int × (Int × Int)) × (Int × (Int × Int)))) (a1 : ((Int × (Int × Int)) × (Int × (Int × Int)))) : Option (Bool) := t_laws_eqPoint some a0 a1
theorem nat_laws_eqPoint {R : Type} (kx : Bool → Option R) (a0 : ((Int × (Int × Int)) × (Int × (Int × Int)))) (a1 : ((Int × (Int × Int)) × (Int × (Int × Int)))) : t_laws_eqPoint kx a0 a1 = (g_laws_eqPoint a0 a1).bind kx := by
  unfold g_laws_eqPoint t_laws_eqPoint
  exact nat_bind fun _ => nat_cond (rfl) (nat_bind fun _ => nat_cond (rfl) (rfl))
abbrev as_laws_eqPoint : List AX := [.val true (.pair (.pair (.int .i64) (.pair (.int .i64) (.int .i64))) (.pair (.int .i64) (.pair (.int .i64) (.int .i64)))), .val true (.pair (.pair (.int .i64) (.pair (.int .i64) (.int .i64))) (.pair (.int .i64) (.pair (.int .i64) (.int .i64))))]
abbrev en_laws_eqPoint : Bool → AV × List CV := fun b => (.one ⟨false, [(.v (.bool b))]⟩, [])
noncomputable abbrev k_laws_eqPoint : Contract := .fx as_laws_eqPoint (Bool) (fun z => g_laws_eqPoint z.1 z.2.1) en_laws_eqPoint
theorem r_laws_eqPoint (z : argsX as_laws_eqPoint) : runF (tab C0 T_laws_eqPoint) noHints 1 Tryd.f54 (lentOf as_laws_eqPoint) (xBoxes as_laws_eqPoint z) (xVals as_laws_eqPoint 0 z) K2 = t_laws_eqPoint (fun b => some (en_laws_eqPoint b)) z.1 z.2.1 := by kernel_rfl
theorem so_laws_eqPoint : Sound C0 54 k_laws_eqPoint :=
  Sound.fx a_laws_eqPoint mixed Tryd.func54 (by kernel_rfl) (by kernel_rfl) noHints 1 noHints_ok (fun z => (r_laws_eqPoint z).trans (nat_laws_eqPoint _ z.1 z.2.1))

/-! ### F55 laws.eqLine -/
noncomputable def T_laws_eqLine : List (FuncId × Contract) := [(93, k_laws_eqNum)]
theorem a_laws_eqLine : AllSound C0 T_laws_eqLine := .cons so_laws_eqNum (.nil)
noncomputable def t_laws_eqLine {R : Type} (kx : Bool → Option R) (a0 : (Int × (Int × (Int × Int)))) (a1 : (Int × (Int × (Int × Int)))) : Option R :=
  cond (a0.1 != a1.1)
  (kx Bool.false)
  (Option.bind (g_laws_eqNum a0.2 a1.2) fun y573 =>
   cond (!y573)
   (kx Bool.false)
   (kx Bool.true))
noncomputable def g_laws_eqLine (a0 : (Int × (Int × (Int × Int)))) (a1 : (Int × (Int × (Int × Int)))) : Option (Bool) := t_laws_eqLine some a0 a1
theorem nat_laws_eqLine {R : Type} (kx : Bool → Option R) (a0 : (Int × (Int × (Int × Int)))) (a1 : (Int × (Int × (Int × Int)))) : t_laws_eqLine kx a0 a1 = (g_laws_eqLine a0 a1).bind kx := by
  unfold g_laws_eqLine t_laws_eqLine
  exact nat_cond (rfl) (nat_bind fun _ => nat_cond (rfl) (rfl))
abbrev as_laws_eqLine : List AX := [.val true (.pair (.int .i64) (.pair (.int .i64) (.pair (.int .i64) (.int .i64)))), .val true (.pair (.int .i64) (.pair (.int .i64) (.pair (.int .i64) (.int .i64))))]
abbrev en_laws_eqLine : Bool → AV × List CV := fun b => (.one ⟨false, [(.v (.bool b))]⟩, [])
noncomputable abbrev k_laws_eqLine : Contract := .fx as_laws_eqLine (Bool) (fun z => g_laws_eqLine z.1 z.2.1) en_laws_eqLine
theorem r_laws_eqLine (z : argsX as_laws_eqLine) : runF (tab C0 T_laws_eqLine) noHints 1 Tryd.f55 (lentOf as_laws_eqLine) (xBoxes as_laws_eqLine z) (xVals as_laws_eqLine 0 z) K2 = t_laws_eqLine (fun b => some (en_laws_eqLine b)) z.1 z.2.1 := by kernel_rfl
theorem so_laws_eqLine : Sound C0 55 k_laws_eqLine :=
  Sound.fx a_laws_eqLine mixed Tryd.func55 (by kernel_rfl) (by kernel_rfl) noHints 1 noHints_ok (fun z => (r_laws_eqLine z).trans (nat_laws_eqLine _ z.1 z.2.1))

/-! ### F17 laws.eqConstruction -/
noncomputable def T_laws_eqConstruction : List (FuncId × Contract) := [(53, k_laws_eqStringS), (54, k_laws_eqPoint), (55, k_laws_eqLine)]
theorem a_laws_eqConstruction : AllSound C0 T_laws_eqConstruction := .cons so_laws_eqStringS (.cons so_laws_eqPoint (.cons so_laws_eqLine (.nil)))
noncomputable def t_laws_eqConstruction {R : Type} (kx : Bool → Option R) (a0 : (ByteArray × (Int × ((List ByteArray) × (Int × (((Int × (Int × Int)) × (Int × (Int × Int))) × (Int × (Int × (Int × Int))))))))) (a1 : (ByteArray × (Int × ((List ByteArray) × (Int × (((Int × (Int × Int)) × (Int × (Int × Int))) × (Int × (Int × (Int × Int))))))))) : Option R :=
  cond (!((ByteArray.toList a0.1) == (ByteArray.toList a1.1)))
  (kx Bool.false)
  (cond (a0.2.1 != a1.2.1)
   (kx Bool.false)
   (Option.bind (g_laws_eqStringS a0.2.2.1 a1.2.2.1) fun y563 =>
    cond (!y563)
    (kx Bool.false)
    (cond (a0.2.2.2.1 != a1.2.2.2.1)
     (kx Bool.false)
     (Option.bind (g_laws_eqPoint a0.2.2.2.2.1 a1.2.2.2.2.1) fun y570 =>
      cond (!y570)
      (kx Bool.false)
      (Option.bind (g_laws_eqLine a0.2.2.2.2.2 a1.2.2.2.2.2) fun y574 =>
       cond (!y574)
       (kx Bool.false)
       (kx Bool.true))))))
noncomputable def g_laws_eqConstruction (a0 : (ByteArray × (Int × ((List ByteArray) × (Int × (((Int × (Int × Int)) × (Int × (Int × Int))) × (Int × (Int × (Int × Int))))))))) (a1 : (ByteArray × (Int × ((List ByteArray) × (Int × (((Int × (Int × Int)) × (Int × (Int × Int))) × (Int × (Int × (Int × Int))))))))) : Option (Bool) := t_laws_eqConstruction some a0 a1
theorem nat_laws_eqConstruction {R : Type} (kx : Bool → Option R) (a0 : (ByteArray × (Int × ((List ByteArray) × (Int × (((Int × (Int × Int)) × (Int × (Int × Int))) × (Int × (Int × (Int × Int))))))))) (a1 : (ByteArray × (Int × ((List ByteArray) × (Int × (((Int × (Int × Int)) × (Int × (Int × Int))) × (Int × (Int × (Int × Int))))))))) : t_laws_eqConstruction kx a0 a1 = (g_laws_eqConstruction a0 a1).bind kx := by
  unfold g_laws_eqConstruction t_laws_eqConstruction
  exact nat_cond (rfl) (nat_cond (rfl) (nat_bind fun _ => nat_cond (rfl) (nat_cond (rfl) (nat_bind fun _ => nat_cond (rfl) (nat_bind fun _ => nat_cond (rfl) (rfl))))))
abbrev as_laws_eqConstruction : List AX := [.val true (.pair .str (.pair (.int .i64) (.pair (.slice .str) (.pair (.int .i64) (.pair (.pair (.pair (.int .i64) (.pair (.int .i64) (.int .i64))) (.pair (.int .i64) (.pair (.int .i64) (.int .i64)))) (.pair (.int .i64) (.pair (.int .i64) (.pair (.int .i64) (.int .i64))))))))), .val true (.pair .str (.pair (.int .i64) (.pair (.slice .str) (.pair (.int .i64) (.pair (.pair (.pair (.int .i64) (.pair (.int .i64) (.int .i64))) (.pair (.int .i64) (.pair (.int .i64) (.int .i64)))) (.pair (.int .i64) (.pair (.int .i64) (.pair (.int .i64) (.int .i64)))))))))]
abbrev en_laws_eqConstruction : Bool → AV × List CV := fun b => (.one ⟨false, [(.v (.bool b))]⟩, [])
noncomputable abbrev k_laws_eqConstruction : Contract := .fx as_laws_eqConstruction (Bool) (fun z => g_laws_eqConstruction z.1 z.2.1) en_laws_eqConstruction
theorem r_laws_eqConstruction (z : argsX as_laws_eqConstruction) : runF (tab C0 T_laws_eqConstruction) noHints 1 Tryd.f17 (lentOf as_laws_eqConstruction) (xBoxes as_laws_eqConstruction z) (xVals as_laws_eqConstruction 0 z) K2 = t_laws_eqConstruction (fun b => some (en_laws_eqConstruction b)) z.1 z.2.1 := by kernel_rfl
theorem so_laws_eqConstruction : Sound C0 17 k_laws_eqConstruction :=
  Sound.fx a_laws_eqConstruction mixed Tryd.func17 (by kernel_rfl) (by kernel_rfl) noHints 1 noHints_ok (fun z => (r_laws_eqConstruction z).trans (nat_laws_eqConstruction _ z.1 z.2.1))

/-! ### F6 laws.FnExactConstructionText -/
noncomputable def T_laws_FnExactConstructionText : List (FuncId × Contract) := [(13, k_laws_szConstruction), (15, k_laws_toConstruction), (21, k_spec_ConstructionText), (22, k_impl_ConstructionText), (17, k_laws_eqConstruction)]
theorem a_laws_FnExactConstructionText : AllSound C0 T_laws_FnExactConstructionText := .cons so_laws_szConstruction (.cons so_laws_toConstruction (.cons so_spec_ConstructionText (.cons so_impl_ConstructionText (.cons so_laws_eqConstruction (.nil)))))
noncomputable def t_laws_FnExactConstructionText {R : Type} (kx : Bool → Option R) (a0 : (ByteArray × (Int × ((List ByteArray) × (Int × (((Int × (Int × Int)) × (Int × (Int × Int))) × (Int × (Int × (Int × Int))))))))) : Option R :=
  Option.bind (g_laws_szConstruction a0 (1048576 : Int)) fun y15 =>
  cond (decide (y15 < (0 : Int)))
  (kx Bool.true)
  (Option.bind (g_laws_toConstruction a0) fun y34 =>
   Option.bind (g_spec_ConstructionText y34) fun y435 =>
   Option.bind (g_laws_toConstruction a0) fun y436 =>
   Option.bind (g_impl_ConstructionText y436) fun y549 =>
   cond (!((ByteArray.toList y549) == (ByteArray.toList y435)))
   (kx Bool.false)
   (Option.bind (g_laws_toConstruction a0) fun y550 =>
    Option.bind (g_laws_eqConstruction y436 y550) fun y575 =>
    cond (!y575)
    (kx Bool.false)
    (kx Bool.true)))
noncomputable def g_laws_FnExactConstructionText (a0 : (ByteArray × (Int × ((List ByteArray) × (Int × (((Int × (Int × Int)) × (Int × (Int × Int))) × (Int × (Int × (Int × Int))))))))) : Option (Bool) := t_laws_FnExactConstructionText some a0
theorem nat_laws_FnExactConstructionText {R : Type} (kx : Bool → Option R) (a0 : (ByteArray × (Int × ((List ByteArray) × (Int × (((Int × (Int × Int)) × (Int × (Int × Int))) × (Int × (Int × (Int × Int))))))))) : t_laws_FnExactConstructionText kx a0 = (g_laws_FnExactConstructionText a0).bind kx := by
  unfold g_laws_FnExactConstructionText t_laws_FnExactConstructionText
  exact nat_bind fun _ => nat_cond (rfl) (nat_bind fun _ => nat_bind fun _ => nat_bind fun _ => nat_bind fun _ => nat_cond (rfl) (nat_bind fun _ => nat_bind fun _ => nat_cond (rfl) (rfl)))
abbrev as_laws_FnExactConstructionText : List AX := [.val true (.pair .str (.pair (.int .i64) (.pair (.slice .str) (.pair (.int .i64) (.pair (.pair (.pair (.int .i64) (.pair (.int .i64) (.int .i64))) (.pair (.int .i64) (.pair (.int .i64) (.int .i64)))) (.pair (.int .i64) (.pair (.int .i64) (.pair (.int .i64) (.int .i64)))))))))]
abbrev en_laws_FnExactConstructionText : Bool → AV × List CV := fun b => (.one ⟨false, [(.v (.bool b))]⟩, [])
noncomputable abbrev k_laws_FnExactConstructionText : Contract := .fx as_laws_FnExactConstructionText (Bool) (fun z => g_laws_FnExactConstructionText z.1) en_laws_FnExactConstructionText
theorem r_laws_FnExactConstructionText (z : argsX as_laws_FnExactConstructionText) : runF (tab C0 T_laws_FnExactConstructionText) noHints 1 Tryd.f6 (lentOf as_laws_FnExactConstructionText) (xBoxes as_laws_FnExactConstructionText z) (xVals as_laws_FnExactConstructionText 0 z) K2 = t_laws_FnExactConstructionText (fun b => some (en_laws_FnExactConstructionText b)) z.1 := by kernel_rfl
theorem so_laws_FnExactConstructionText : Sound C0 6 k_laws_FnExactConstructionText :=
  Sound.fx a_laws_FnExactConstructionText mixed Tryd.func6 (by kernel_rfl) (by kernel_rfl) noHints 1 noHints_ok (fun z => (r_laws_FnExactConstructionText z).trans (nat_laws_FnExactConstructionText _ z.1))

end Go.Proofs.YtjkljnflaifbhaaDoor
