/- What the functions that FindItem reaches compute, printed. No conditions. -/
import Derived.Test.YtjkljnflaifbhaaDoorW1R
namespace Go.Proofs.YtjkljnflaifbhaaDoor
open Go.Vai
set_option maxRecDepth 100000

/-! ### F37 laws.szItem -/
noncomputable def T_laws_szItem : List (FuncId × Contract) := []
theorem a_laws_szItem : AllSound C0 T_laws_szItem := .nil
noncomputable def t_laws_szItem {R : Type} (kx : Int → Option R) (a0 : (ByteArray × (Bool × (((Int × (Int × Int)) × (Int × (Int × Int))) × (Int × (Int × (Int × Int))))))) (a1 : Int) : Option R :=
  cond (decide ((IntKind.wrap IntKind.i64 (a1 - (((ByteArray.size a0.1) : Nat) : Int))) < (0 : Int)))
  (kx (-(1 : Int)))
  (kx (IntKind.wrap IntKind.i64 (a1 - (((ByteArray.size a0.1) : Nat) : Int))))
noncomputable def g_laws_szItem (a0 : (ByteArray × (Bool × (((Int × (Int × Int)) × (Int × (Int × Int))) × (Int × (Int × (Int × Int))))))) (a1 : Int) : Option (Int) := t_laws_szItem some a0 a1
theorem nat_laws_szItem {R : Type} (kx : Int → Option R) (a0 : (ByteArray × (Bool × (((Int × (Int × Int)) × (Int × (Int × Int))) × (Int × (Int × (Int × Int))))))) (a1 : Int) : t_laws_szItem kx a0 a1 = (g_laws_szItem a0 a1).bind kx := by
  unfold g_laws_szItem t_laws_szItem
  exact nat_cond (rfl) (rfl)
abbrev as_laws_szItem : List AX := [.val true (.pair .str (.pair .bool (.pair (.pair (.pair (.int .i64) (.pair (.int .i64) (.int .i64))) (.pair (.int .i64) (.pair (.int .i64) (.int .i64)))) (.pair (.int .i64) (.pair (.int .i64) (.pair (.int .i64) (.int .i64))))))), .val false (.int .i64)]
abbrev en_laws_szItem : Int → AV × List CV := fun b => (.one ⟨false, [(.v (.int .i64 b))]⟩, [])
noncomputable abbrev k_laws_szItem : Contract := .fx as_laws_szItem (Int) (fun z => g_laws_szItem z.1 z.2.1) en_laws_szItem
theorem r_laws_szItem (z : argsX as_laws_szItem) : runF (tab C0 T_laws_szItem) noHints 1 Tryd.f37 (lentOf as_laws_szItem) (xBoxes as_laws_szItem z) (xVals as_laws_szItem 0 z) K2 = t_laws_szItem (fun b => some (en_laws_szItem b)) z.1 z.2.1 := by kernel_rfl
theorem so_laws_szItem : Sound C0 37 k_laws_szItem :=
  Sound.fx a_laws_szItem mixed Tryd.func37 (by kernel_rfl) (by kernel_rfl) noHints 1 noHints_ok (fun z => (r_laws_szItem z).trans (nat_laws_szItem _ z.1 z.2.1))

/-! ### F8 laws.szItemS -/
noncomputable def T_laws_szItemS : List (FuncId × Contract) := [(37, k_laws_szItem)]
theorem a_laws_szItemS : AllSound C0 T_laws_szItemS := .cons so_laws_szItem (.nil)
abbrev s_laws_szItemS_6 : LS := ⟨[(false, [(.sl (.pair .str (.pair .bool (.pair (.pair (.pair (.int .i64) (.pair (.int .i64) (.int .i64))) (.pair (.int .i64) (.pair (.int .i64) (.int .i64)))) (.pair (.int .i64) (.pair (.int .i64) (.pair (.int .i64) (.int .i64))))))))]), (false, [(.int .i64)]), (false, [(.int .i64)])], [], []⟩
abbrev e_laws_szItemS_6_0 : LS := ⟨[(false, [(.int .i64)]), (false, [(.int .i64)])], [], []⟩
abbrev d_laws_szItemS_6_0 (v0 : Int) (v1 : Int) : e_laws_szItemS_6_0.T := (((v0, ()), (v1, ()), ()), (), ())
abbrev e_laws_szItemS_6_1 : LS := ⟨[(false, [(.int .i64)]), (false, [.undef])], [], []⟩
abbrev d_laws_szItemS_6_1 (v0 : Int) : e_laws_szItemS_6_1.T := (((v0, ()), ((), ()), ()), (), ())
abbrev x_laws_szItemS_6 : List (Ex × LS) := [(.ret, e_laws_szItemS_6_0), (.exit 0, e_laws_szItemS_6_1)]
abbrev m_laws_szItemS_6 (x0 : List (ByteArray × (Bool × (((Int × (Int × Int)) × (Int × (Int × Int))) × (Int × (Int × (Int × Int))))))) (x1 : Int) (x5 : Int) : s_laws_szItemS_6.T := (((x0, ()), (x1, ()), (x5, ()), ()), (), ())
noncomputable def u_laws_szItemS_6 {R : Type} (nx : s_laws_szItemS_6.T → Option R) (hx : exH R x_laws_szItemS_6) (x0 : List (ByteArray × (Bool × (((Int × (Int × Int)) × (Int × (Int × Int))) × (Int × (Int × (Int × Int))))))) (x1 : Int) (x5 : Int) : Option R :=
  cond (decide (x5 < (((List.length x0) : Nat) : Int)))
  (Option.bind (idx x0 x5) fun y7 =>
   Option.bind (g_laws_szItem y7 x1) fun y10 =>
   cond (decide (y10 < (0 : Int)))
   (hx.1 (d_laws_szItemS_6_0 y10 (-(1 : Int))))
   (nx (m_laws_szItemS_6 x0 y10 (IntKind.wrap IntKind.i64 (x5 + (1 : Int))))))
  (hx.2.1 (d_laws_szItemS_6_1 x1))
noncomputable def t_laws_szItemS_6 {R : Type} (nx : s_laws_szItemS_6.T → Option R) (hx : exH R x_laws_szItemS_6) (z : s_laws_szItemS_6.T) : Option R := u_laws_szItemS_6 nx hx z.1.1.1 z.1.2.1.1 z.1.2.2.1.1
theorem nat_laws_szItemS_6 : Natural @t_laws_szItemS_6 := fun R nx hx z => by
  show u_laws_szItemS_6 nx hx z.1.1.1 z.1.2.1.1 z.1.2.2.1.1 = (u_laws_szItemS_6 (fun y => some (.inl y)) (hIn x_laws_szItemS_6 fun x => some (.inr x)) z.1.1.1 z.1.2.1.1 z.1.2.2.1.1).bind (goOn nx hx)
  unfold u_laws_szItemS_6
  exact nat_cond (nat_bind fun _ => nat_bind fun _ => nat_cond (rfl) (rfl)) (rfl)
noncomputable def w_laws_szItemS_6 : s_laws_szItemS_6.T → Option (exT x_laws_szItemS_6) := wOf @t_laws_szItemS_6
theorem wq_laws_szItemS_6 (x0 : List (ByteArray × (Bool × (((Int × (Int × Int)) × (Int × (Int × Int))) × (Int × (Int × (Int × Int))))))) (x1 : Int) (x5 : Int) : w_laws_szItemS_6 (m_laws_szItemS_6 x0 x1 x5) = u_laws_szItemS_6 w_laws_szItemS_6 (hIn x_laws_szItemS_6 some) x0 x1 x5 := wOf_eq nat_laws_szItemS_6 _
def lh_laws_szItemS_6 : LoopHint := ⟨[0, 1, 5], [], [1, 4], []⟩
noncomputable def h_laws_szItemS : Hints Rv := ⟨fun k => match k with | 6 => lh_laws_szItemS_6 | _ => ⟨[], [], [], []⟩, fun k => match k with | 6 => some (loopX s_laws_szItemS_6 x_laws_szItemS_6 w_laws_szItemS_6) | _ => none⟩
theorem st_laws_szItemS_6 (n : Nat) (z : s_laws_szItemS_6.T) (k : Ex → Live → Option Rv) : loopN ⟨27, 27⟩ lh_laws_szItemS_6 (den (tab C0 T_laws_szItemS) ⟨27, 27⟩ h_laws_szItemS 1 (loopOf Tryd.f8 5)) (n + 1) (s_laws_szItemS_6.enc z) k =
    t_laws_szItemS_6 (fun y => loopN ⟨27, 27⟩ lh_laws_szItemS_6 (den (tab C0 T_laws_szItemS) ⟨27, 27⟩ h_laws_szItemS 1 (loopOf Tryd.f8 5)) n (s_laws_szItemS_6.enc y) k) (hK k x_laws_szItemS_6) z := by kernel_rfl
theorem hs_laws_szItemS : HintsOk (tab C0 T_laws_szItemS) ⟨27, 27⟩ h_laws_szItemS 1 (loops (codeOf Tryd.f8)) := by
  have hl : loops (codeOf Tryd.f8) = [loopOf Tryd.f8 5] := by kernel_rfl
  rw [hl]
  exact HintsOk.cons (n := 6) (lh := lh_laws_szItemS_6) (S := loopX s_laws_szItemS_6 x_laws_szItemS_6 w_laws_szItemS_6) (by kernel_rfl) rfl rfl (loopX_ok nat_laws_szItemS_6 st_laws_szItemS_6)
    (HintsOk.nil)
noncomputable def t_laws_szItemS {R : Type} (kx : Int → Option R) (a0 : (List (ByteArray × (Bool × (((Int × (Int × Int)) × (Int × (Int × Int))) × (Int × (Int × (Int × Int)))))))) (a1 : Int) : Option R :=
  cond (decide ((IntKind.wrap IntKind.i64 (a1 - (((List.length a0) : Nat) : Int))) < (0 : Int)))
  (kx (-(1 : Int)))
  (Option.bind (w_laws_szItemS_6 (m_laws_szItemS_6 a0 (IntKind.wrap IntKind.i64 (a1 - (((List.length a0) : Nat) : Int))) (0 : Int))) (exC x_laws_szItemS_6
   (fun e11 =>
    kx (e11.1.2.1.1 : Int), fun e14 =>
    kx (e14.1.1.1 : Int), ())))
noncomputable def g_laws_szItemS (a0 : (List (ByteArray × (Bool × (((Int × (Int × Int)) × (Int × (Int × Int))) × (Int × (Int × (Int × Int)))))))) (a1 : Int) : Option (Int) := t_laws_szItemS some a0 a1
theorem nat_laws_szItemS {R : Type} (kx : Int → Option R) (a0 : (List (ByteArray × (Bool × (((Int × (Int × Int)) × (Int × (Int × Int))) × (Int × (Int × (Int × Int)))))))) (a1 : Int) : t_laws_szItemS kx a0 a1 = (g_laws_szItemS a0 a1).bind kx := by
  unfold g_laws_szItemS t_laws_szItemS
  exact nat_cond (rfl) (nat_exC ⟨fun _ => rfl, fun _ => rfl, trivial⟩)
abbrev as_laws_szItemS : List AX := [.val false (.slice (.pair .str (.pair .bool (.pair (.pair (.pair (.int .i64) (.pair (.int .i64) (.int .i64))) (.pair (.int .i64) (.pair (.int .i64) (.int .i64)))) (.pair (.int .i64) (.pair (.int .i64) (.pair (.int .i64) (.int .i64)))))))), .val false (.int .i64)]
abbrev en_laws_szItemS : Int → AV × List CV := fun b => (.one ⟨false, [(.v (.int .i64 b))]⟩, [])
noncomputable abbrev k_laws_szItemS : Contract := .fx as_laws_szItemS (Int) (fun z => g_laws_szItemS z.1 z.2.1) en_laws_szItemS
theorem r_laws_szItemS (z : argsX as_laws_szItemS) : runF (tab C0 T_laws_szItemS) h_laws_szItemS 1 Tryd.f8 (lentOf as_laws_szItemS) (xBoxes as_laws_szItemS z) (xVals as_laws_szItemS 0 z) K2 = t_laws_szItemS (fun b => some (en_laws_szItemS b)) z.1 z.2.1 := by kernel_rfl
theorem so_laws_szItemS : Sound C0 8 k_laws_szItemS :=
  Sound.fx a_laws_szItemS mixed Tryd.func8 (by kernel_rfl) (by kernel_rfl) h_laws_szItemS 1 hs_laws_szItemS (fun z => (r_laws_szItemS z).trans (nat_laws_szItemS _ z.1 z.2.1))

/-! ### F88 laws.toNum -/
noncomputable def T_laws_toNum : List (FuncId × Contract) := []
theorem a_laws_toNum : AllSound C0 T_laws_toNum := .nil
noncomputable def t_laws_toNum {R : Type} (kx : (Int × (Int × Int)) → Option R) (a0 : (Int × (Int × Int))) : Option R :=
  kx a0
noncomputable def g_laws_toNum (a0 : (Int × (Int × Int))) : Option ((Int × (Int × Int))) := t_laws_toNum some a0
theorem nat_laws_toNum {R : Type} (kx : (Int × (Int × Int)) → Option R) (a0 : (Int × (Int × Int))) : t_laws_toNum kx a0 = (g_laws_toNum a0).bind kx := by
  unfold g_laws_toNum t_laws_toNum
  exact rfl
abbrev as_laws_toNum : List AX := [.val true (.pair (.int .i64) (.pair (.int .i64) (.int .i64)))]
abbrev en_laws_toNum : (Int × (Int × Int)) → AV × List CV := fun b => (.one ⟨true, [(.v (.int .i64 b.1)), (.v (.int .i64 b.2.1)), (.v (.int .i64 b.2.2))]⟩, [])
noncomputable abbrev k_laws_toNum : Contract := .fx as_laws_toNum ((Int × (Int × Int))) (fun z => g_laws_toNum z.1) en_laws_toNum
theorem r_laws_toNum (z : argsX as_laws_toNum) : runF (tab C0 T_laws_toNum) noHints 1 Tryd.f88 (lentOf as_laws_toNum) (xBoxes as_laws_toNum z) (xVals as_laws_toNum 0 z) K2 = t_laws_toNum (fun b => some (en_laws_toNum b)) z.1 := by kernel_rfl
theorem so_laws_toNum : Sound C0 88 k_laws_toNum :=
  Sound.fx a_laws_toNum mixed Tryd.func88 (by kernel_rfl) (by kernel_rfl) noHints 1 noHints_ok (fun z => (r_laws_toNum z).trans (nat_laws_toNum _ z.1))

/-! ### F45 laws.toPoint -/
noncomputable def T_laws_toPoint : List (FuncId × Contract) := [(88, k_laws_toNum)]
theorem a_laws_toPoint : AllSound C0 T_laws_toPoint := .cons so_laws_toNum (.nil)
noncomputable def t_laws_toPoint {R : Type} (kx : ((Int × (Int × Int)) × (Int × (Int × Int))) → Option R) (a0 : ((Int × (Int × Int)) × (Int × (Int × Int)))) : Option R :=
  Option.bind (g_laws_toNum a0.1) fun y25 =>
  Option.bind (g_laws_toNum a0.2) fun y26 =>
  kx (y25, y26)
noncomputable def g_laws_toPoint (a0 : ((Int × (Int × Int)) × (Int × (Int × Int)))) : Option (((Int × (Int × Int)) × (Int × (Int × Int)))) := t_laws_toPoint some a0
theorem nat_laws_toPoint {R : Type} (kx : ((Int × (Int × Int)) × (Int × (Int × Int))) → Option R) (a0 : ((Int × (Int × Int)) × (Int × (Int × Int)))) : t_laws_toPoint kx a0 = (g_laws_toPoint a0).bind kx := by
  unfold g_laws_toPoint t_laws_toPoint
  exact nat_bind fun _ => nat_bind fun _ => rfl
abbrev as_laws_toPoint : List AX := [.val true (.pair (.pair (.int .i64) (.pair (.int .i64) (.int .i64))) (.pair (.int .i64) (.pair (.int .i64) (.int .i64))))]
abbrev en_laws_toPoint : ((Int × (Int × Int)) × (Int × (Int × Int))) → AV × List CV := fun b => (.one ⟨true, [(.v (.int .i64 b.1.1)), (.v (.int .i64 b.1.2.1)), (.v (.int .i64 b.1.2.2)), (.v (.int .i64 b.2.1)), (.v (.int .i64 b.2.2.1)), (.v (.int .i64 b.2.2.2))]⟩, [])
noncomputable abbrev k_laws_toPoint : Contract := .fx as_laws_toPoint (((Int × (Int × Int)) × (Int × (Int × Int)))) (fun z => g_laws_toPoint z.1) en_laws_toPoint
theorem r_laws_toPoint (z : argsX as_laws_toPoint) : runF (tab C0 T_laws_toPoint) noHints 1 Tryd.f45 (lentOf as_laws_toPoint) (xBoxes as_laws_toPoint z) (xVals as_laws_toPoint 0 z) K2 = t_laws_toPoint (fun b => some (en_laws_toPoint b)) z.1 := by kernel_rfl
theorem so_laws_toPoint : Sound C0 45 k_laws_toPoint :=
  Sound.fx a_laws_toPoint mixed Tryd.func45 (by kernel_rfl) (by kernel_rfl) noHints 1 noHints_ok (fun z => (r_laws_toPoint z).trans (nat_laws_toPoint _ z.1))

/-! ### F46 laws.toLine -/
noncomputable def T_laws_toLine : List (FuncId × Contract) := [(88, k_laws_toNum)]
theorem a_laws_toLine : AllSound C0 T_laws_toLine := .cons so_laws_toNum (.nil)
noncomputable def t_laws_toLine {R : Type} (kx : (Int × (Int × (Int × Int))) → Option R) (a0 : (Int × (Int × (Int × Int)))) : Option R :=
  Option.bind (g_laws_toNum a0.2) fun y29 =>
  kx (a0.1, y29)
noncomputable def g_laws_toLine (a0 : (Int × (Int × (Int × Int)))) : Option ((Int × (Int × (Int × Int)))) := t_laws_toLine some a0
theorem nat_laws_toLine {R : Type} (kx : (Int × (Int × (Int × Int))) → Option R) (a0 : (Int × (Int × (Int × Int)))) : t_laws_toLine kx a0 = (g_laws_toLine a0).bind kx := by
  unfold g_laws_toLine t_laws_toLine
  exact nat_bind fun _ => rfl
abbrev as_laws_toLine : List AX := [.val true (.pair (.int .i64) (.pair (.int .i64) (.pair (.int .i64) (.int .i64))))]
abbrev en_laws_toLine : (Int × (Int × (Int × Int))) → AV × List CV := fun b => (.one ⟨true, [(.v (.int .i64 b.1)), (.v (.int .i64 b.2.1)), (.v (.int .i64 b.2.2.1)), (.v (.int .i64 b.2.2.2))]⟩, [])
noncomputable abbrev k_laws_toLine : Contract := .fx as_laws_toLine ((Int × (Int × (Int × Int)))) (fun z => g_laws_toLine z.1) en_laws_toLine
theorem r_laws_toLine (z : argsX as_laws_toLine) : runF (tab C0 T_laws_toLine) noHints 1 Tryd.f46 (lentOf as_laws_toLine) (xBoxes as_laws_toLine z) (xVals as_laws_toLine 0 z) K2 = t_laws_toLine (fun b => some (en_laws_toLine b)) z.1 := by kernel_rfl
theorem so_laws_toLine : Sound C0 46 k_laws_toLine :=
  Sound.fx a_laws_toLine mixed Tryd.func46 (by kernel_rfl) (by kernel_rfl) noHints 1 noHints_ok (fun z => (r_laws_toLine z).trans (nat_laws_toLine _ z.1))

/-! ### F39 laws.toItem -/
noncomputable def T_laws_toItem : List (FuncId × Contract) := [(45, k_laws_toPoint), (46, k_laws_toLine)]
theorem a_laws_toItem : AllSound C0 T_laws_toItem := .cons so_laws_toPoint (.cons so_laws_toLine (.nil))
noncomputable def t_laws_toItem {R : Type} (kx : (ByteArray × (Bool × (((Int × (Int × Int)) × (Int × (Int × Int))) × (Int × (Int × (Int × Int)))))) → Option R) (a0 : (ByteArray × (Bool × (((Int × (Int × Int)) × (Int × (Int × Int))) × (Int × (Int × (Int × Int))))))) : Option R :=
  Option.bind (g_laws_toPoint a0.2.2.1) fun y27 =>
  Option.bind (g_laws_toLine a0.2.2.2) fun y30 =>
  kx (a0.1, (a0.2.1, (y27, y30)))
noncomputable def g_laws_toItem (a0 : (ByteArray × (Bool × (((Int × (Int × Int)) × (Int × (Int × Int))) × (Int × (Int × (Int × Int))))))) : Option ((ByteArray × (Bool × (((Int × (Int × Int)) × (Int × (Int × Int))) × (Int × (Int × (Int × Int))))))) := t_laws_toItem some a0
theorem nat_laws_toItem {R : Type} (kx : (ByteArray × (Bool × (((Int × (Int × Int)) × (Int × (Int × Int))) × (Int × (Int × (Int × Int)))))) → Option R) (a0 : (ByteArray × (Bool × (((Int × (Int × Int)) × (Int × (Int × Int))) × (Int × (Int × (Int × Int))))))) : t_laws_toItem kx a0 = (g_laws_toItem a0).bind kx := by
  unfold g_laws_toItem t_laws_toItem
  exact nat_bind fun _ => nat_bind fun _ => rfl
abbrev as_laws_toItem : List AX := [.val true (.pair .str (.pair .bool (.pair (.pair (.pair (.int .i64) (.pair (.int .i64) (.int .i64))) (.pair (.int .i64) (.pair (.int .i64) (.int .i64)))) (.pair (.int .i64) (.pair (.int .i64) (.pair (.int .i64) (.int .i64)))))))]
abbrev en_laws_toItem : (ByteArray × (Bool × (((Int × (Int × Int)) × (Int × (Int × Int))) × (Int × (Int × (Int × Int)))))) → AV × List CV := fun b => (.one ⟨true, [(.v (.string b.1)), (.v (.bool b.2.1)), (.v (.int .i64 b.2.2.1.1.1)), (.v (.int .i64 b.2.2.1.1.2.1)), (.v (.int .i64 b.2.2.1.1.2.2)), (.v (.int .i64 b.2.2.1.2.1)), (.v (.int .i64 b.2.2.1.2.2.1)), (.v (.int .i64 b.2.2.1.2.2.2)), (.v (.int .i64 b.2.2.2.1)), (.v (.int .i64 b.2.2.2.2.1)), (.v (.int .i64 b.2.2.2.2.2.1)), (.v (.int .i64 b.2.2.2.2.2.2))]⟩, [])
noncomputable abbrev k_laws_toItem : Contract := .fx as_laws_toItem ((ByteArray × (Bool × (((Int × (Int × Int)) × (Int × (Int × Int))) × (Int × (Int × (Int × Int))))))) (fun z => g_laws_toItem z.1) en_laws_toItem
theorem r_laws_toItem (z : argsX as_laws_toItem) : runF (tab C0 T_laws_toItem) noHints 1 Tryd.f39 (lentOf as_laws_toItem) (xBoxes as_laws_toItem z) (xVals as_laws_toItem 0 z) K2 = t_laws_toItem (fun b => some (en_laws_toItem b)) z.1 := by kernel_rfl
theorem so_laws_toItem : Sound C0 39 k_laws_toItem :=
  Sound.fx a_laws_toItem mixed Tryd.func39 (by kernel_rfl) (by kernel_rfl) noHints 1 noHints_ok (fun z => (r_laws_toItem z).trans (nat_laws_toItem _ z.1))

/-! ### F10 laws.toItemS -/
noncomputable def T_laws_toItemS : List (FuncId × Contract) := [(39, k_laws_toItem)]
theorem a_laws_toItemS : AllSound C0 T_laws_toItemS := .cons so_laws_toItem (.nil)
abbrev s_laws_toItemS_4 : LS := ⟨[(false, [(.sl (.pair .str (.pair .bool (.pair (.pair (.pair (.int .i64) (.pair (.int .i64) (.int .i64))) (.pair (.int .i64) (.pair (.int .i64) (.int .i64)))) (.pair (.int .i64) (.pair (.int .i64) (.pair (.int .i64) (.int .i64))))))))]), (false, [(.own (.pair .str (.pair .bool (.pair (.pair (.pair (.int .i64) (.pair (.int .i64) (.int .i64))) (.pair (.int .i64) (.pair (.int .i64) (.int .i64)))) (.pair (.int .i64) (.pair (.int .i64) (.pair (.int .i64) (.int .i64))))))))]), (false, [(.int .i64)])], [], []⟩
abbrev e_laws_toItemS_4_0 : LS := ⟨[(false, [(.own (.pair .str (.pair .bool (.pair (.pair (.pair (.int .i64) (.pair (.int .i64) (.int .i64))) (.pair (.int .i64) (.pair (.int .i64) (.int .i64)))) (.pair (.int .i64) (.pair (.int .i64) (.pair (.int .i64) (.int .i64))))))))])], [], []⟩
abbrev d_laws_toItemS_4_0 (v0 : List (ByteArray × (Bool × (((Int × (Int × Int)) × (Int × (Int × Int))) × (Int × (Int × (Int × Int))))))) : e_laws_toItemS_4_0.T := (((v0, ()), ()), (), ())
abbrev x_laws_toItemS_4 : List (Ex × LS) := [(.exit 0, e_laws_toItemS_4_0)]
abbrev m_laws_toItemS_4 (x0 : List (ByteArray × (Bool × (((Int × (Int × Int)) × (Int × (Int × Int))) × (Int × (Int × (Int × Int))))))) (x3 : List (ByteArray × (Bool × (((Int × (Int × Int)) × (Int × (Int × Int))) × (Int × (Int × (Int × Int))))))) (x4 : Int) : s_laws_toItemS_4.T := (((x0, ()), (x3, ()), (x4, ()), ()), (), ())
noncomputable def u_laws_toItemS_4 {R : Type} (nx : s_laws_toItemS_4.T → Option R) (hx : exH R x_laws_toItemS_4) (x0 : List (ByteArray × (Bool × (((Int × (Int × Int)) × (Int × (Int × Int))) × (Int × (Int × (Int × Int))))))) (x3 : List (ByteArray × (Bool × (((Int × (Int × Int)) × (Int × (Int × Int))) × (Int × (Int × (Int × Int))))))) (x4 : Int) : Option R :=
  cond (decide (x4 < (((List.length x0) : Nat) : Int)))
  (Option.bind (idx x0 x4) fun y21 =>
   Option.bind (g_laws_toItem y21) fun y31 =>
   Option.bind (idx x3 x4) fun _ =>
   nx (m_laws_toItemS_4 x0 (List.set x3 (0 + (Int.toNat x4)) y31) (IntKind.wrap IntKind.i64 (x4 + (1 : Int)))))
  (hx.1 (d_laws_toItemS_4_0 x3))
noncomputable def t_laws_toItemS_4 {R : Type} (nx : s_laws_toItemS_4.T → Option R) (hx : exH R x_laws_toItemS_4) (z : s_laws_toItemS_4.T) : Option R := u_laws_toItemS_4 nx hx z.1.1.1 z.1.2.1.1 z.1.2.2.1.1
theorem nat_laws_toItemS_4 : Natural @t_laws_toItemS_4 := fun R nx hx z => by
  show u_laws_toItemS_4 nx hx z.1.1.1 z.1.2.1.1 z.1.2.2.1.1 = (u_laws_toItemS_4 (fun y => some (.inl y)) (hIn x_laws_toItemS_4 fun x => some (.inr x)) z.1.1.1 z.1.2.1.1 z.1.2.2.1.1).bind (goOn nx hx)
  unfold u_laws_toItemS_4
  exact nat_cond (nat_bind fun _ => nat_bind fun _ => nat_bind fun _ => rfl) (rfl)
noncomputable def w_laws_toItemS_4 : s_laws_toItemS_4.T → Option (exT x_laws_toItemS_4) := wOf @t_laws_toItemS_4
theorem wq_laws_toItemS_4 (x0 : List (ByteArray × (Bool × (((Int × (Int × Int)) × (Int × (Int × Int))) × (Int × (Int × (Int × Int))))))) (x3 : List (ByteArray × (Bool × (((Int × (Int × Int)) × (Int × (Int × Int))) × (Int × (Int × (Int × Int))))))) (x4 : Int) : w_laws_toItemS_4 (m_laws_toItemS_4 x0 x3 x4) = u_laws_toItemS_4 w_laws_toItemS_4 (hIn x_laws_toItemS_4 some) x0 x3 x4 := wOf_eq nat_laws_toItemS_4 _
def lh_laws_toItemS_4 : LoopHint := ⟨[0, 3, 4], [], [3], []⟩
noncomputable def h_laws_toItemS : Hints Rv := ⟨fun k => match k with | 4 => lh_laws_toItemS_4 | _ => ⟨[], [], [], []⟩, fun k => match k with | 4 => some (loopX s_laws_toItemS_4 x_laws_toItemS_4 w_laws_toItemS_4) | _ => none⟩
theorem st_laws_toItemS_4 (n : Nat) (z : s_laws_toItemS_4.T) (k : Ex → Live → Option Rv) : loopN ⟨23, 23⟩ lh_laws_toItemS_4 (den (tab C0 T_laws_toItemS) ⟨23, 23⟩ h_laws_toItemS 1 (loopOf Tryd.f10 3)) (n + 1) (s_laws_toItemS_4.enc z) k =
    t_laws_toItemS_4 (fun y => loopN ⟨23, 23⟩ lh_laws_toItemS_4 (den (tab C0 T_laws_toItemS) ⟨23, 23⟩ h_laws_toItemS 1 (loopOf Tryd.f10 3)) n (s_laws_toItemS_4.enc y) k) (hK k x_laws_toItemS_4) z := by kernel_rfl
theorem hs_laws_toItemS : HintsOk (tab C0 T_laws_toItemS) ⟨23, 23⟩ h_laws_toItemS 1 (loops (codeOf Tryd.f10)) := by
  have hl : loops (codeOf Tryd.f10) = [loopOf Tryd.f10 3] := by kernel_rfl
  rw [hl]
  exact HintsOk.cons (n := 4) (lh := lh_laws_toItemS_4) (S := loopX s_laws_toItemS_4 x_laws_toItemS_4 w_laws_toItemS_4) (by kernel_rfl) rfl rfl (loopX_ok nat_laws_toItemS_4 st_laws_toItemS_4)
    (HintsOk.nil)
noncomputable def t_laws_toItemS {R : Type} (kx : (List (ByteArray × (Bool × (((Int × (Int × Int)) × (Int × (Int × Int))) × (Int × (Int × (Int × Int))))))) → Option R) (a0 : (List (ByteArray × (Bool × (((Int × (Int × Int)) × (Int × (Int × Int))) × (Int × (Int × (Int × Int)))))))) : Option R :=
  cond (decide ((((List.length a0) : Nat) : Int) ≤ (((List.length a0) : Nat) : Int)))
  (cond (decide (((((List.length a0) : Nat) : Int) * ((104 : Nat) : Int)) ≤ (70368744177664 : Int)))
   (cond (decide ((((List.length a0) : Nat) : Int) ≤ (70368744177664 : Int)))
    (Option.bind (w_laws_toItemS_4 (m_laws_toItemS_4 a0 (List.replicate (Int.toNat (((List.length a0) : Nat) : Int)) ((ByteArray.mk (Array.mk [])), (Bool.false, ((((0 : Int), ((0 : Int), (0 : Int))), ((0 : Int), ((0 : Int), (0 : Int)))), ((0 : Int), ((0 : Int), ((0 : Int), (0 : Int)))))))) (0 : Int))) (exC x_laws_toItemS_4
     (fun e33 =>
      kx (e33.1.1.1 : List (ByteArray × (Bool × (((Int × (Int × Int)) × (Int × (Int × Int))) × (Int × (Int × (Int × Int))))))), ())))
    (none))
   (none))
  (none)
noncomputable def g_laws_toItemS (a0 : (List (ByteArray × (Bool × (((Int × (Int × Int)) × (Int × (Int × Int))) × (Int × (Int × (Int × Int)))))))) : Option ((List (ByteArray × (Bool × (((Int × (Int × Int)) × (Int × (Int × Int))) × (Int × (Int × (Int × Int)))))))) := t_laws_toItemS some a0
theorem nat_laws_toItemS {R : Type} (kx : (List (ByteArray × (Bool × (((Int × (Int × Int)) × (Int × (Int × Int))) × (Int × (Int × (Int × Int))))))) → Option R) (a0 : (List (ByteArray × (Bool × (((Int × (Int × Int)) × (Int × (Int × Int))) × (Int × (Int × (Int × Int)))))))) : t_laws_toItemS kx a0 = (g_laws_toItemS a0).bind kx := by
  unfold g_laws_toItemS t_laws_toItemS
  exact nat_cond (nat_cond (nat_cond (nat_exC ⟨fun _ => rfl, trivial⟩) (rfl)) (rfl)) (rfl)
abbrev as_laws_toItemS : List AX := [.val false (.slice (.pair .str (.pair .bool (.pair (.pair (.pair (.int .i64) (.pair (.int .i64) (.int .i64))) (.pair (.int .i64) (.pair (.int .i64) (.int .i64)))) (.pair (.int .i64) (.pair (.int .i64) (.pair (.int .i64) (.int .i64))))))))]
abbrev en_laws_toItemS : (List (ByteArray × (Bool × (((Int × (Int × Int)) × (Int × (Int × Int))) × (Int × (Int × (Int × Int))))))) → AV × List CV := fun b => (.one ⟨false, [(.own (.pair .str (.pair .bool (.pair (.pair (.pair (.int .i64) (.pair (.int .i64) (.int .i64))) (.pair (.int .i64) (.pair (.int .i64) (.int .i64)))) (.pair (.int .i64) (.pair (.int .i64) (.pair (.int .i64) (.int .i64))))))) b)]⟩, [])
noncomputable abbrev k_laws_toItemS : Contract := .fx as_laws_toItemS ((List (ByteArray × (Bool × (((Int × (Int × Int)) × (Int × (Int × Int))) × (Int × (Int × (Int × Int)))))))) (fun z => g_laws_toItemS z.1) en_laws_toItemS
theorem r_laws_toItemS (z : argsX as_laws_toItemS) : runF (tab C0 T_laws_toItemS) h_laws_toItemS 1 Tryd.f10 (lentOf as_laws_toItemS) (xBoxes as_laws_toItemS z) (xVals as_laws_toItemS 0 z) K2 = t_laws_toItemS (fun b => some (en_laws_toItemS b)) z.1 := by kernel_rfl
theorem so_laws_toItemS : Sound C0 10 k_laws_toItemS :=
  Sound.fx a_laws_toItemS mixed Tryd.func10 (by kernel_rfl) (by kernel_rfl) h_laws_toItemS 1 hs_laws_toItemS (fun z => (r_laws_toItemS z).trans (nat_laws_toItemS _ z.1))

/-! ### F130 spec.l01Letter -/
noncomputable def T_spec_l01Letter : List (FuncId × Contract) := []
theorem a_spec_l01Letter : AllSound C0 T_spec_l01Letter := .nil
noncomputable def t_spec_l01Letter {R : Type} (kx : Bool → Option R) (a0 : Int) : Option R :=
  cond (decide (a0 ≥ (65 : Int)))
  (cond (decide (a0 ≤ (90 : Int)))
   (kx Bool.true)
   (cond (decide (a0 ≥ (97 : Int)))
    (kx (decide (a0 ≤ (122 : Int))))
    (kx Bool.false)))
  (cond (decide (a0 ≥ (97 : Int)))
   (kx (decide (a0 ≤ (122 : Int))))
   (kx Bool.false))
noncomputable def g_spec_l01Letter (a0 : Int) : Option (Bool) := t_spec_l01Letter some a0
theorem nat_spec_l01Letter {R : Type} (kx : Bool → Option R) (a0 : Int) : t_spec_l01Letter kx a0 = (g_spec_l01Letter a0).bind kx := by
  unfold g_spec_l01Letter t_spec_l01Letter
  exact nat_cond (nat_cond (rfl) (nat_cond (rfl) (rfl))) (nat_cond (rfl) (rfl))
abbrev as_spec_l01Letter : List AX := [.val false (.int .u8)]
abbrev en_spec_l01Letter : Bool → AV × List CV := fun b => (.one ⟨false, [(.v (.bool b))]⟩, [])
noncomputable abbrev k_spec_l01Letter : Contract := .fx as_spec_l01Letter (Bool) (fun z => g_spec_l01Letter z.1) en_spec_l01Letter
theorem r_spec_l01Letter (z : argsX as_spec_l01Letter) : runF (tab C0 T_spec_l01Letter) noHints 1 Tryd.f130 (lentOf as_spec_l01Letter) (xBoxes as_spec_l01Letter z) (xVals as_spec_l01Letter 0 z) K2 = t_spec_l01Letter (fun b => some (en_spec_l01Letter b)) z.1 := by kernel_rfl
theorem so_spec_l01Letter : Sound C0 130 k_spec_l01Letter :=
  Sound.fx a_spec_l01Letter mixed Tryd.func130 (by kernel_rfl) (by kernel_rfl) noHints 1 noHints_ok (fun z => (r_spec_l01Letter z).trans (nat_spec_l01Letter _ z.1))

/-! ### F131 spec.l01Digit -/
noncomputable def T_spec_l01Digit : List (FuncId × Contract) := []
theorem a_spec_l01Digit : AllSound C0 T_spec_l01Digit := .nil
noncomputable def t_spec_l01Digit {R : Type} (kx : Bool → Option R) (a0 : Int) : Option R :=
  cond (decide (a0 ≥ (48 : Int)))
  (kx (decide (a0 ≤ (57 : Int))))
  (kx Bool.false)
noncomputable def g_spec_l01Digit (a0 : Int) : Option (Bool) := t_spec_l01Digit some a0
theorem nat_spec_l01Digit {R : Type} (kx : Bool → Option R) (a0 : Int) : t_spec_l01Digit kx a0 = (g_spec_l01Digit a0).bind kx := by
  unfold g_spec_l01Digit t_spec_l01Digit
  exact nat_cond (rfl) (rfl)
abbrev as_spec_l01Digit : List AX := [.val false (.int .u8)]
abbrev en_spec_l01Digit : Bool → AV × List CV := fun b => (.one ⟨false, [(.v (.bool b))]⟩, [])
noncomputable abbrev k_spec_l01Digit : Contract := .fx as_spec_l01Digit (Bool) (fun z => g_spec_l01Digit z.1) en_spec_l01Digit
theorem r_spec_l01Digit (z : argsX as_spec_l01Digit) : runF (tab C0 T_spec_l01Digit) noHints 1 Tryd.f131 (lentOf as_spec_l01Digit) (xBoxes as_spec_l01Digit z) (xVals as_spec_l01Digit 0 z) K2 = t_spec_l01Digit (fun b => some (en_spec_l01Digit b)) z.1 := by kernel_rfl
theorem so_spec_l01Digit : Sound C0 131 k_spec_l01Digit :=
  Sound.fx a_spec_l01Digit mixed Tryd.func131 (by kernel_rfl) (by kernel_rfl) noHints 1 noHints_ok (fun z => (r_spec_l01Digit z).trans (nat_spec_l01Digit _ z.1))

/-! ### F82 spec.IsName -/
noncomputable def T_spec_IsName : List (FuncId × Contract) := [(130, k_spec_l01Letter), (131, k_spec_l01Digit)]
theorem a_spec_IsName : AllSound C0 T_spec_IsName := .cons so_spec_l01Letter (.cons so_spec_l01Digit (.nil))
abbrev s_spec_IsName_5 : LS := ⟨[(false, [.str]), (false, [(.int .i64)])], [], []⟩
abbrev e_spec_IsName_5_0 : LS := ⟨[(false, [.bool])], [], []⟩
abbrev d_spec_IsName_5_0 (v0 : Bool) : e_spec_IsName_5_0.T := (((v0, ()), ()), (), ())
abbrev e_spec_IsName_5_1 : LS := ⟨[(false, [.undef])], [], []⟩
abbrev d_spec_IsName_5_1 : e_spec_IsName_5_1.T := ((((), ()), ()), (), ())
abbrev x_spec_IsName_5 : List (Ex × LS) := [(.ret, e_spec_IsName_5_0), (.exit 0, e_spec_IsName_5_1)]
abbrev m_spec_IsName_5 (x0 : ByteArray) (x3 : Int) : s_spec_IsName_5.T := (((x0, ()), (x3, ()), ()), (), ())
noncomputable def u_spec_IsName_5 {R : Type} (nx : s_spec_IsName_5.T → Option R) (hx : exH R x_spec_IsName_5) (x0 : ByteArray) (x3 : Int) : Option R :=
  cond (decide (x3 < (((ByteArray.size x0) : Nat) : Int)))
  (Option.bind (idxB x0 x3) fun y49 =>
   Option.bind (g_spec_l01Letter (((UInt8.toNat y49) : Nat) : Int)) fun y50 =>
   cond (!y50)
   (Option.bind (idxB x0 x3) fun y51 =>
    Option.bind (g_spec_l01Digit (((UInt8.toNat y51) : Nat) : Int)) fun y53 =>
    cond (!y53)
    (Option.bind (idxB x0 x3) fun y54 =>
     cond ((((UInt8.toNat y54) : Nat) : Int) != (95 : Int))
     (hx.1 (d_spec_IsName_5_0 Bool.false))
     (nx (m_spec_IsName_5 x0 (IntKind.wrap IntKind.i64 (x3 + (1 : Int))))))
    (nx (m_spec_IsName_5 x0 (IntKind.wrap IntKind.i64 (x3 + (1 : Int))))))
   (nx (m_spec_IsName_5 x0 (IntKind.wrap IntKind.i64 (x3 + (1 : Int))))))
  (hx.2.1 (d_spec_IsName_5_1))
noncomputable def t_spec_IsName_5 {R : Type} (nx : s_spec_IsName_5.T → Option R) (hx : exH R x_spec_IsName_5) (z : s_spec_IsName_5.T) : Option R := u_spec_IsName_5 nx hx z.1.1.1 z.1.2.1.1
theorem nat_spec_IsName_5 : Natural @t_spec_IsName_5 := fun R nx hx z => by
  show u_spec_IsName_5 nx hx z.1.1.1 z.1.2.1.1 = (u_spec_IsName_5 (fun y => some (.inl y)) (hIn x_spec_IsName_5 fun x => some (.inr x)) z.1.1.1 z.1.2.1.1).bind (goOn nx hx)
  unfold u_spec_IsName_5
  exact nat_cond (nat_bind fun _ => nat_bind fun _ => nat_cond (nat_bind fun _ => nat_bind fun _ => nat_cond (nat_bind fun _ => nat_cond (rfl) (rfl)) (rfl)) (rfl)) (rfl)
noncomputable def w_spec_IsName_5 : s_spec_IsName_5.T → Option (exT x_spec_IsName_5) := wOf @t_spec_IsName_5
theorem wq_spec_IsName_5 (x0 : ByteArray) (x3 : Int) : w_spec_IsName_5 (m_spec_IsName_5 x0 x3) = u_spec_IsName_5 w_spec_IsName_5 (hIn x_spec_IsName_5 some) x0 x3 := wOf_eq nat_spec_IsName_5 _
def lh_spec_IsName_5 : LoopHint := ⟨[0, 3], [], [2], []⟩
noncomputable def h_spec_IsName : Hints Rv := ⟨fun k => match k with | 5 => lh_spec_IsName_5 | _ => ⟨[], [], [], []⟩, fun k => match k with | 5 => some (loopX s_spec_IsName_5 x_spec_IsName_5 w_spec_IsName_5) | _ => none⟩
theorem st_spec_IsName_5 (n : Nat) (z : s_spec_IsName_5.T) (k : Ex → Live → Option Rv) : loopN ⟨41, 41⟩ lh_spec_IsName_5 (den (tab C0 T_spec_IsName) ⟨41, 41⟩ h_spec_IsName 1 (loopOf Tryd.f82 4)) (n + 1) (s_spec_IsName_5.enc z) k =
    t_spec_IsName_5 (fun y => loopN ⟨41, 41⟩ lh_spec_IsName_5 (den (tab C0 T_spec_IsName) ⟨41, 41⟩ h_spec_IsName 1 (loopOf Tryd.f82 4)) n (s_spec_IsName_5.enc y) k) (hK k x_spec_IsName_5) z := by kernel_rfl
theorem hs_spec_IsName : HintsOk (tab C0 T_spec_IsName) ⟨41, 41⟩ h_spec_IsName 1 (loops (codeOf Tryd.f82)) := by
  have hl : loops (codeOf Tryd.f82) = [loopOf Tryd.f82 4] := by kernel_rfl
  rw [hl]
  exact HintsOk.cons (n := 5) (lh := lh_spec_IsName_5) (S := loopX s_spec_IsName_5 x_spec_IsName_5 w_spec_IsName_5) (by kernel_rfl) rfl rfl (loopX_ok nat_spec_IsName_5 st_spec_IsName_5)
    (HintsOk.nil)
noncomputable def t_spec_IsName {R : Type} (kx : Bool → Option R) (a0 : ByteArray) : Option R :=
  cond ((ByteArray.toList a0) == (ByteArray.toList (ByteArray.mk (Array.mk []))))
  (kx Bool.false)
  (cond (decide ((((ByteArray.size a0) : Nat) : Int) > (12 : Int)))
   (kx Bool.false)
   (Option.bind (idxB a0 (0 : Int)) fun y44 =>
    Option.bind (g_spec_l01Letter (((UInt8.toNat y44) : Nat) : Int)) fun y46 =>
    cond (!y46)
    (kx Bool.false)
    (Option.bind (w_spec_IsName_5 (m_spec_IsName_5 a0 (0 : Int))) (exC x_spec_IsName_5
     (fun e55 =>
      kx (e55.1.1.1 : Bool), fun _ =>
      kx Bool.true, ())))))
noncomputable def g_spec_IsName (a0 : ByteArray) : Option (Bool) := t_spec_IsName some a0
theorem nat_spec_IsName {R : Type} (kx : Bool → Option R) (a0 : ByteArray) : t_spec_IsName kx a0 = (g_spec_IsName a0).bind kx := by
  unfold g_spec_IsName t_spec_IsName
  exact nat_cond (rfl) (nat_cond (rfl) (nat_bind fun _ => nat_bind fun _ => nat_cond (rfl) (nat_exC ⟨fun _ => rfl, fun _ => rfl, trivial⟩)))
abbrev as_spec_IsName : List AX := [.val false .str]
abbrev en_spec_IsName : Bool → AV × List CV := fun b => (.one ⟨false, [(.v (.bool b))]⟩, [])
noncomputable abbrev k_spec_IsName : Contract := .fx as_spec_IsName (Bool) (fun z => g_spec_IsName z.1) en_spec_IsName
theorem r_spec_IsName (z : argsX as_spec_IsName) : runF (tab C0 T_spec_IsName) h_spec_IsName 1 Tryd.f82 (lentOf as_spec_IsName) (xBoxes as_spec_IsName z) (xVals as_spec_IsName 0 z) K2 = t_spec_IsName (fun b => some (en_spec_IsName b)) z.1 := by kernel_rfl
theorem so_spec_IsName : Sound C0 82 k_spec_IsName :=
  Sound.fx a_spec_IsName mixed Tryd.func82 (by kernel_rfl) (by kernel_rfl) h_spec_IsName 1 hs_spec_IsName (fun z => (r_spec_IsName z).trans (nat_spec_IsName _ z.1))

/-! ### F83 spec.l00In -/
noncomputable def T_spec_l00In : List (FuncId × Contract) := []
theorem a_spec_l00In : AllSound C0 T_spec_l00In := .nil
noncomputable def t_spec_l00In {R : Type} (kx : Bool → Option R) (a0 : Int) (a1 : Int) (a2 : Int) : Option R :=
  cond (decide (a0 ≥ a1))
  (kx (decide (a0 ≤ a2)))
  (kx Bool.false)
noncomputable def g_spec_l00In (a0 : Int) (a1 : Int) (a2 : Int) : Option (Bool) := t_spec_l00In some a0 a1 a2
theorem nat_spec_l00In {R : Type} (kx : Bool → Option R) (a0 : Int) (a1 : Int) (a2 : Int) : t_spec_l00In kx a0 a1 a2 = (g_spec_l00In a0 a1 a2).bind kx := by
  unfold g_spec_l00In t_spec_l00In
  exact nat_cond (rfl) (rfl)
abbrev as_spec_l00In : List AX := [.val false (.int .i64), .val false (.int .i64), .val false (.int .i64)]
abbrev en_spec_l00In : Bool → AV × List CV := fun b => (.one ⟨false, [(.v (.bool b))]⟩, [])
noncomputable abbrev k_spec_l00In : Contract := .fx as_spec_l00In (Bool) (fun z => g_spec_l00In z.1 z.2.1 z.2.2.1) en_spec_l00In
theorem r_spec_l00In (z : argsX as_spec_l00In) : runF (tab C0 T_spec_l00In) noHints 1 Tryd.f83 (lentOf as_spec_l00In) (xBoxes as_spec_l00In z) (xVals as_spec_l00In 0 z) K2 = t_spec_l00In (fun b => some (en_spec_l00In b)) z.1 z.2.1 z.2.2.1 := by kernel_rfl
theorem so_spec_l00In : Sound C0 83 k_spec_l00In :=
  Sound.fx a_spec_l00In mixed Tryd.func83 (by kernel_rfl) (by kernel_rfl) noHints 1 noHints_ok (fun z => (r_spec_l00In z).trans (nat_spec_l00In _ z.1 z.2.1 z.2.2.1))

/-! ### F133 spec.l01Ok -/
noncomputable def T_spec_l01Ok : List (FuncId × Contract) := [(83, k_spec_l00In)]
theorem a_spec_l01Ok : AllSound C0 T_spec_l01Ok := .cons so_spec_l00In (.nil)
noncomputable def t_spec_l01Ok {R : Type} (kx : Bool → Option R) (a0 : (Int × (Int × Int))) : Option R :=
  Option.bind (g_spec_l00In a0.1 (-(131072 : Int)) (131072 : Int)) fun y65 =>
  cond (!y65)
  (kx Bool.false)
  (Option.bind (g_spec_l00In a0.2.1 (-(131072 : Int)) (131072 : Int)) fun y66 =>
   cond (!y66)
   (kx Bool.false)
   (Option.bind (g_spec_l00In a0.2.2 (0 : Int) (10 : Int)) fun y67 =>
    cond (!y67)
    (kx Bool.false)
    (cond (a0.2.2 == (0 : Int))
     (kx Bool.true)
     (cond ((Int.tmod a0.1 (2 : Int)) != (0 : Int))
      (kx Bool.true)
      (kx ((Int.tmod a0.2.1 (2 : Int)) != (0 : Int)))))))
noncomputable def g_spec_l01Ok (a0 : (Int × (Int × Int))) : Option (Bool) := t_spec_l01Ok some a0
theorem nat_spec_l01Ok {R : Type} (kx : Bool → Option R) (a0 : (Int × (Int × Int))) : t_spec_l01Ok kx a0 = (g_spec_l01Ok a0).bind kx := by
  unfold g_spec_l01Ok t_spec_l01Ok
  exact nat_bind fun _ => nat_cond (rfl) (nat_bind fun _ => nat_cond (rfl) (nat_bind fun _ => nat_cond (rfl) (nat_cond (rfl) (nat_cond (rfl) (rfl)))))
abbrev as_spec_l01Ok : List AX := [.val true (.pair (.int .i64) (.pair (.int .i64) (.int .i64)))]
abbrev en_spec_l01Ok : Bool → AV × List CV := fun b => (.one ⟨false, [(.v (.bool b))]⟩, [])
noncomputable abbrev k_spec_l01Ok : Contract := .fx as_spec_l01Ok (Bool) (fun z => g_spec_l01Ok z.1) en_spec_l01Ok
theorem r_spec_l01Ok (z : argsX as_spec_l01Ok) : runF (tab C0 T_spec_l01Ok) noHints 1 Tryd.f133 (lentOf as_spec_l01Ok) (xBoxes as_spec_l01Ok z) (xVals as_spec_l01Ok 0 z) K2 = t_spec_l01Ok (fun b => some (en_spec_l01Ok b)) z.1 := by kernel_rfl
theorem so_spec_l01Ok : Sound C0 133 k_spec_l01Ok :=
  Sound.fx a_spec_l01Ok mixed Tryd.func133 (by kernel_rfl) (by kernel_rfl) noHints 1 noHints_ok (fun z => (r_spec_l01Ok z).trans (nat_spec_l01Ok _ z.1))

/-! ### F87 spec.l02Line -/
noncomputable def T_spec_l02Line : List (FuncId × Contract) := [(83, k_spec_l00In), (133, k_spec_l01Ok)]
theorem a_spec_l02Line : AllSound C0 T_spec_l02Line := .cons so_spec_l00In (.cons so_spec_l01Ok (.nil))
noncomputable def t_spec_l02Line {R : Type} (kx : Bool → Option R) (a0 : (Int × (Int × (Int × Int)))) : Option R :=
  Option.bind (g_spec_l00In a0.1 (0 : Int) (7 : Int)) fun y63 =>
  cond y63
  (Option.bind (g_spec_l01Ok a0.2) fun y68 =>
   kx y68)
  (kx Bool.false)
noncomputable def g_spec_l02Line (a0 : (Int × (Int × (Int × Int)))) : Option (Bool) := t_spec_l02Line some a0
theorem nat_spec_l02Line {R : Type} (kx : Bool → Option R) (a0 : (Int × (Int × (Int × Int)))) : t_spec_l02Line kx a0 = (g_spec_l02Line a0).bind kx := by
  unfold g_spec_l02Line t_spec_l02Line
  exact nat_bind fun _ => nat_cond (nat_bind fun _ => rfl) (rfl)
abbrev as_spec_l02Line : List AX := [.val true (.pair (.int .i64) (.pair (.int .i64) (.pair (.int .i64) (.int .i64))))]
abbrev en_spec_l02Line : Bool → AV × List CV := fun b => (.one ⟨false, [(.v (.bool b))]⟩, [])
noncomputable abbrev k_spec_l02Line : Contract := .fx as_spec_l02Line (Bool) (fun z => g_spec_l02Line z.1) en_spec_l02Line
theorem r_spec_l02Line (z : argsX as_spec_l02Line) : runF (tab C0 T_spec_l02Line) noHints 1 Tryd.f87 (lentOf as_spec_l02Line) (xBoxes as_spec_l02Line z) (xVals as_spec_l02Line 0 z) K2 = t_spec_l02Line (fun b => some (en_spec_l02Line b)) z.1 := by kernel_rfl
theorem so_spec_l02Line : Sound C0 87 k_spec_l02Line :=
  Sound.fx a_spec_l02Line mixed Tryd.func87 (by kernel_rfl) (by kernel_rfl) noHints 1 noHints_ok (fun z => (r_spec_l02Line z).trans (nat_spec_l02Line _ z.1))

/-! ### F86 spec.l02Point -/
noncomputable def T_spec_l02Point : List (FuncId × Contract) := [(133, k_spec_l01Ok)]
theorem a_spec_l02Point : AllSound C0 T_spec_l02Point := .cons so_spec_l01Ok (.nil)
noncomputable def t_spec_l02Point {R : Type} (kx : Bool → Option R) (a0 : ((Int × (Int × Int)) × (Int × (Int × Int)))) : Option R :=
  Option.bind (g_spec_l01Ok a0.1) fun y71 =>
  cond y71
  (Option.bind (g_spec_l01Ok a0.2) fun y72 =>
   kx y72)
  (kx Bool.false)
noncomputable def g_spec_l02Point (a0 : ((Int × (Int × Int)) × (Int × (Int × Int)))) : Option (Bool) := t_spec_l02Point some a0
theorem nat_spec_l02Point {R : Type} (kx : Bool → Option R) (a0 : ((Int × (Int × Int)) × (Int × (Int × Int)))) : t_spec_l02Point kx a0 = (g_spec_l02Point a0).bind kx := by
  unfold g_spec_l02Point t_spec_l02Point
  exact nat_bind fun _ => nat_cond (nat_bind fun _ => rfl) (rfl)
abbrev as_spec_l02Point : List AX := [.val true (.pair (.pair (.int .i64) (.pair (.int .i64) (.int .i64))) (.pair (.int .i64) (.pair (.int .i64) (.int .i64))))]
abbrev en_spec_l02Point : Bool → AV × List CV := fun b => (.one ⟨false, [(.v (.bool b))]⟩, [])
noncomputable abbrev k_spec_l02Point : Contract := .fx as_spec_l02Point (Bool) (fun z => g_spec_l02Point z.1) en_spec_l02Point
theorem r_spec_l02Point (z : argsX as_spec_l02Point) : runF (tab C0 T_spec_l02Point) noHints 1 Tryd.f86 (lentOf as_spec_l02Point) (xBoxes as_spec_l02Point z) (xVals as_spec_l02Point 0 z) K2 = t_spec_l02Point (fun b => some (en_spec_l02Point b)) z.1 := by kernel_rfl
theorem so_spec_l02Point : Sound C0 86 k_spec_l02Point :=
  Sound.fx a_spec_l02Point mixed Tryd.func86 (by kernel_rfl) (by kernel_rfl) noHints 1 noHints_ok (fun z => (r_spec_l02Point z).trans (nat_spec_l02Point _ z.1))

/-! ### F79 spec.l24Item -/
noncomputable def T_spec_l24Item : List (FuncId × Contract) := [(82, k_spec_IsName), (87, k_spec_l02Line), (86, k_spec_l02Point)]
theorem a_spec_l24Item : AllSound C0 T_spec_l24Item := .cons so_spec_IsName (.cons so_spec_l02Line (.cons so_spec_l02Point (.nil)))
noncomputable def t_spec_l24Item {R : Type} (kx : Bool → Option R) (a0 : (ByteArray × (Bool × (((Int × (Int × Int)) × (Int × (Int × Int))) × (Int × (Int × (Int × Int))))))) : Option R :=
  Option.bind (g_spec_IsName a0.1) fun y58 =>
  cond (!y58)
  (kx Bool.false)
  (cond a0.2.1
   (Option.bind (g_spec_l02Line a0.2.2.2) fun y69 =>
    cond y69
    (kx (((a0.2.2.1.1.1 == (0 : Int)) && ((a0.2.2.1.1.2.1 == (0 : Int)) && ((a0.2.2.1.1.2.2 == (0 : Int)) && Bool.true))) && (((a0.2.2.1.2.1 == (0 : Int)) && ((a0.2.2.1.2.2.1 == (0 : Int)) && ((a0.2.2.1.2.2.2 == (0 : Int)) && Bool.true))) && Bool.true)))
    (kx Bool.false))
   (Option.bind (g_spec_l02Point a0.2.2.1) fun y73 =>
    cond y73
    (kx ((a0.2.2.2.1 == (0 : Int)) && (((a0.2.2.2.2.1 == (0 : Int)) && ((a0.2.2.2.2.2.1 == (0 : Int)) && ((a0.2.2.2.2.2.2 == (0 : Int)) && Bool.true))) && Bool.true)))
    (kx Bool.false)))
noncomputable def g_spec_l24Item (a0 : (ByteArray × (Bool × (((Int × (Int × Int)) × (Int × (Int × Int))) × (Int × (Int × (Int × Int))))))) : Option (Bool) := t_spec_l24Item some a0
theorem nat_spec_l24Item {R : Type} (kx : Bool → Option R) (a0 : (ByteArray × (Bool × (((Int × (Int × Int)) × (Int × (Int × Int))) × (Int × (Int × (Int × Int))))))) : t_spec_l24Item kx a0 = (g_spec_l24Item a0).bind kx := by
  unfold g_spec_l24Item t_spec_l24Item
  exact nat_bind fun _ => nat_cond (rfl) (nat_cond (nat_bind fun _ => nat_cond (rfl) (rfl)) (nat_bind fun _ => nat_cond (rfl) (rfl)))
abbrev as_spec_l24Item : List AX := [.val true (.pair .str (.pair .bool (.pair (.pair (.pair (.int .i64) (.pair (.int .i64) (.int .i64))) (.pair (.int .i64) (.pair (.int .i64) (.int .i64)))) (.pair (.int .i64) (.pair (.int .i64) (.pair (.int .i64) (.int .i64)))))))]
abbrev en_spec_l24Item : Bool → AV × List CV := fun b => (.one ⟨false, [(.v (.bool b))]⟩, [])
noncomputable abbrev k_spec_l24Item : Contract := .fx as_spec_l24Item (Bool) (fun z => g_spec_l24Item z.1) en_spec_l24Item
theorem r_spec_l24Item (z : argsX as_spec_l24Item) : runF (tab C0 T_spec_l24Item) noHints 1 Tryd.f79 (lentOf as_spec_l24Item) (xBoxes as_spec_l24Item z) (xVals as_spec_l24Item 0 z) K2 = t_spec_l24Item (fun b => some (en_spec_l24Item b)) z.1 := by kernel_rfl
theorem so_spec_l24Item : Sound C0 79 k_spec_l24Item :=
  Sound.fx a_spec_l24Item mixed Tryd.func79 (by kernel_rfl) (by kernel_rfl) noHints 1 noHints_ok (fun z => (r_spec_l24Item z).trans (nat_spec_l24Item _ z.1))

/-! ### F38 spec.l24Items -/
noncomputable def T_spec_l24Items : List (FuncId × Contract) := [(79, k_spec_l24Item)]
theorem a_spec_l24Items : AllSound C0 T_spec_l24Items := .cons so_spec_l24Item (.nil)
abbrev s_spec_l24Items_8 : LS := ⟨[(false, [(.sl (.pair .str (.pair .bool (.pair (.pair (.pair (.int .i64) (.pair (.int .i64) (.int .i64))) (.pair (.int .i64) (.pair (.int .i64) (.int .i64)))) (.pair (.int .i64) (.pair (.int .i64) (.pair (.int .i64) (.int .i64))))))))]), (false, [(.int .i64)]), (false, [(.int .i64)])], [], []⟩
abbrev e_spec_l24Items_8_0 : LS := ⟨[(false, [(.sl (.pair .str (.pair .bool (.pair (.pair (.pair (.int .i64) (.pair (.int .i64) (.int .i64))) (.pair (.int .i64) (.pair (.int .i64) (.int .i64)))) (.pair (.int .i64) (.pair (.int .i64) (.pair (.int .i64) (.int .i64))))))))]), (false, [.bool]), (false, [(.int .i64)])], [], []⟩
abbrev d_spec_l24Items_8_0 (v0 : List (ByteArray × (Bool × (((Int × (Int × Int)) × (Int × (Int × Int))) × (Int × (Int × (Int × Int))))))) (v1 : Bool) (v2 : Int) : e_spec_l24Items_8_0.T := (((v0, ()), (v1, ()), (v2, ()), ()), (), ())
abbrev e_spec_l24Items_8_1 : LS := ⟨[(false, [(.sl (.pair .str (.pair .bool (.pair (.pair (.pair (.int .i64) (.pair (.int .i64) (.int .i64))) (.pair (.int .i64) (.pair (.int .i64) (.int .i64)))) (.pair (.int .i64) (.pair (.int .i64) (.pair (.int .i64) (.int .i64))))))))]), (false, [.undef]), (false, [(.int .i64)])], [], []⟩
abbrev d_spec_l24Items_8_1 (v0 : List (ByteArray × (Bool × (((Int × (Int × Int)) × (Int × (Int × Int))) × (Int × (Int × (Int × Int))))))) (v1 : Int) : e_spec_l24Items_8_1.T := (((v0, ()), ((), ()), (v1, ()), ()), (), ())
abbrev x_spec_l24Items_8 : List (Ex × LS) := [(.ret, e_spec_l24Items_8_0), (.exit 2, e_spec_l24Items_8_1)]
abbrev m_spec_l24Items_8 (x0 : List (ByteArray × (Bool × (((Int × (Int × Int)) × (Int × (Int × Int))) × (Int × (Int × (Int × Int))))))) (x3 : Int) (x4 : Int) : s_spec_l24Items_8.T := (((x0, ()), (x3, ()), (x4, ()), ()), (), ())
noncomputable def u_spec_l24Items_8 {R : Type} (nx : s_spec_l24Items_8.T → Option R) (hx : exH R x_spec_l24Items_8) (x0 : List (ByteArray × (Bool × (((Int × (Int × Int)) × (Int × (Int × Int))) × (Int × (Int × (Int × Int))))))) (x3 : Int) (x4 : Int) : Option R :=
  cond (decide (x4 < x3))
  (Option.bind (idx x0 x4) fun y78 =>
   Option.bind (idx x0 x3) fun y79 =>
   cond ((ByteArray.toList y78.1) == (ByteArray.toList y79.1))
   (hx.1 (d_spec_l24Items_8_0 x0 Bool.false x3))
   (nx (m_spec_l24Items_8 x0 x3 (IntKind.wrap IntKind.i64 (x4 + (1 : Int))))))
  (hx.2.1 (d_spec_l24Items_8_1 x0 x3))
noncomputable def t_spec_l24Items_8 {R : Type} (nx : s_spec_l24Items_8.T → Option R) (hx : exH R x_spec_l24Items_8) (z : s_spec_l24Items_8.T) : Option R := u_spec_l24Items_8 nx hx z.1.1.1 z.1.2.1.1 z.1.2.2.1.1
theorem nat_spec_l24Items_8 : Natural @t_spec_l24Items_8 := fun R nx hx z => by
  show u_spec_l24Items_8 nx hx z.1.1.1 z.1.2.1.1 z.1.2.2.1.1 = (u_spec_l24Items_8 (fun y => some (.inl y)) (hIn x_spec_l24Items_8 fun x => some (.inr x)) z.1.1.1 z.1.2.1.1 z.1.2.2.1.1).bind (goOn nx hx)
  unfold u_spec_l24Items_8
  exact nat_cond (nat_bind fun _ => nat_bind fun _ => nat_cond (rfl) (rfl)) (rfl)
noncomputable def w_spec_l24Items_8 : s_spec_l24Items_8.T → Option (exT x_spec_l24Items_8) := wOf @t_spec_l24Items_8
theorem wq_spec_l24Items_8 (x0 : List (ByteArray × (Bool × (((Int × (Int × Int)) × (Int × (Int × Int))) × (Int × (Int × (Int × Int))))))) (x3 : Int) (x4 : Int) : w_spec_l24Items_8 (m_spec_l24Items_8 x0 x3 x4) = u_spec_l24Items_8 w_spec_l24Items_8 (hIn x_spec_l24Items_8 some) x0 x3 x4 := wOf_eq nat_spec_l24Items_8 _
def lh_spec_l24Items_8 : LoopHint := ⟨[0, 3, 4], [], [0, 2, 3], []⟩
abbrev s_spec_l24Items_3 : LS := ⟨[(false, [(.sl (.pair .str (.pair .bool (.pair (.pair (.pair (.int .i64) (.pair (.int .i64) (.int .i64))) (.pair (.int .i64) (.pair (.int .i64) (.int .i64)))) (.pair (.int .i64) (.pair (.int .i64) (.pair (.int .i64) (.int .i64))))))))]), (false, [(.int .i64)])], [], []⟩
abbrev e_spec_l24Items_3_0 : LS := ⟨[(false, [(.sl (.pair .str (.pair .bool (.pair (.pair (.pair (.int .i64) (.pair (.int .i64) (.int .i64))) (.pair (.int .i64) (.pair (.int .i64) (.int .i64)))) (.pair (.int .i64) (.pair (.int .i64) (.pair (.int .i64) (.int .i64))))))))]), (false, [.bool])], [], []⟩
abbrev d_spec_l24Items_3_0 (v0 : List (ByteArray × (Bool × (((Int × (Int × Int)) × (Int × (Int × Int))) × (Int × (Int × (Int × Int))))))) (v1 : Bool) : e_spec_l24Items_3_0.T := (((v0, ()), (v1, ()), ()), (), ())
abbrev e_spec_l24Items_3_1 : LS := ⟨[(false, [(.sl (.pair .str (.pair .bool (.pair (.pair (.pair (.int .i64) (.pair (.int .i64) (.int .i64))) (.pair (.int .i64) (.pair (.int .i64) (.int .i64)))) (.pair (.int .i64) (.pair (.int .i64) (.pair (.int .i64) (.int .i64))))))))]), (false, [.undef])], [], []⟩
abbrev d_spec_l24Items_3_1 (v0 : List (ByteArray × (Bool × (((Int × (Int × Int)) × (Int × (Int × Int))) × (Int × (Int × (Int × Int))))))) : e_spec_l24Items_3_1.T := (((v0, ()), ((), ()), ()), (), ())
abbrev x_spec_l24Items_3 : List (Ex × LS) := [(.ret, e_spec_l24Items_3_0), (.exit 0, e_spec_l24Items_3_1)]
abbrev m_spec_l24Items_3 (x0 : List (ByteArray × (Bool × (((Int × (Int × Int)) × (Int × (Int × Int))) × (Int × (Int × (Int × Int))))))) (x3 : Int) : s_spec_l24Items_3.T := (((x0, ()), (x3, ()), ()), (), ())
noncomputable def u_spec_l24Items_3 {R : Type} (nx : s_spec_l24Items_3.T → Option R) (hx : exH R x_spec_l24Items_3) (x0 : List (ByteArray × (Bool × (((Int × (Int × Int)) × (Int × (Int × Int))) × (Int × (Int × (Int × Int))))))) (x3 : Int) : Option R :=
  cond (decide (x3 < (((List.length x0) : Nat) : Int)))
  (Option.bind (idx x0 x3) fun y41 =>
   Option.bind (g_spec_l24Item y41) fun y74 =>
   cond (!y74)
   (hx.1 (d_spec_l24Items_3_0 x0 Bool.false))
   (Option.bind (w_spec_l24Items_8 (m_spec_l24Items_8 x0 x3 (0 : Int))) (exC x_spec_l24Items_8
    (fun e80 =>
     hx.1 (d_spec_l24Items_3_0 (e80.1.1.1 : List (ByteArray × (Bool × (((Int × (Int × Int)) × (Int × (Int × Int))) × (Int × (Int × (Int × Int))))))) (e80.1.2.1.1 : Bool)), fun e84 =>
     nx (m_spec_l24Items_3 (e84.1.1.1 : List (ByteArray × (Bool × (((Int × (Int × Int)) × (Int × (Int × Int))) × (Int × (Int × (Int × Int))))))) (IntKind.wrap IntKind.i64 ((e84.1.2.2.1.1 : Int) + (1 : Int)))), ()))))
  (hx.2.1 (d_spec_l24Items_3_1 x0))
noncomputable def t_spec_l24Items_3 {R : Type} (nx : s_spec_l24Items_3.T → Option R) (hx : exH R x_spec_l24Items_3) (z : s_spec_l24Items_3.T) : Option R := u_spec_l24Items_3 nx hx z.1.1.1 z.1.2.1.1
theorem nat_spec_l24Items_3 : Natural @t_spec_l24Items_3 := fun R nx hx z => by
  show u_spec_l24Items_3 nx hx z.1.1.1 z.1.2.1.1 = (u_spec_l24Items_3 (fun y => some (.inl y)) (hIn x_spec_l24Items_3 fun x => some (.inr x)) z.1.1.1 z.1.2.1.1).bind (goOn nx hx)
  unfold u_spec_l24Items_3
  exact nat_cond (nat_bind fun _ => nat_bind fun _ => nat_cond (rfl) (nat_exC ⟨fun _ => rfl, fun _ => rfl, trivial⟩)) (rfl)
noncomputable def w_spec_l24Items_3 : s_spec_l24Items_3.T → Option (exT x_spec_l24Items_3) := wOf @t_spec_l24Items_3
theorem wq_spec_l24Items_3 (x0 : List (ByteArray × (Bool × (((Int × (Int × Int)) × (Int × (Int × Int))) × (Int × (Int × (Int × Int))))))) (x3 : Int) : w_spec_l24Items_3 (m_spec_l24Items_3 x0 x3) = u_spec_l24Items_3 w_spec_l24Items_3 (hIn x_spec_l24Items_3 some) x0 x3 := wOf_eq nat_spec_l24Items_3 _
def lh_spec_l24Items_3 : LoopHint := ⟨[0, 3], [], [0, 2], []⟩
noncomputable def h_spec_l24Items : Hints Rv := ⟨fun k => match k with | 8 => lh_spec_l24Items_8 | 3 => lh_spec_l24Items_3 | _ => ⟨[], [], [], []⟩, fun k => match k with | 8 => some (loopX s_spec_l24Items_8 x_spec_l24Items_8 w_spec_l24Items_8) | 3 => some (loopX s_spec_l24Items_3 x_spec_l24Items_3 w_spec_l24Items_3) | _ => none⟩
theorem st_spec_l24Items_8 (n : Nat) (z : s_spec_l24Items_8.T) (k : Ex → Live → Option Rv) : loopN ⟨36, 36⟩ lh_spec_l24Items_8 (den (tab C0 T_spec_l24Items) ⟨36, 36⟩ h_spec_l24Items 1 (loopOf Tryd.f38 7)) (n + 1) (s_spec_l24Items_8.enc z) k =
    t_spec_l24Items_8 (fun y => loopN ⟨36, 36⟩ lh_spec_l24Items_8 (den (tab C0 T_spec_l24Items) ⟨36, 36⟩ h_spec_l24Items 1 (loopOf Tryd.f38 7)) n (s_spec_l24Items_8.enc y) k) (hK k x_spec_l24Items_8) z := by kernel_rfl
theorem st_spec_l24Items_3 (n : Nat) (z : s_spec_l24Items_3.T) (k : Ex → Live → Option Rv) : loopN ⟨36, 36⟩ lh_spec_l24Items_3 (den (tab C0 T_spec_l24Items) ⟨36, 36⟩ h_spec_l24Items 1 (loopOf Tryd.f38 2)) (n + 1) (s_spec_l24Items_3.enc z) k =
    t_spec_l24Items_3 (fun y => loopN ⟨36, 36⟩ lh_spec_l24Items_3 (den (tab C0 T_spec_l24Items) ⟨36, 36⟩ h_spec_l24Items 1 (loopOf Tryd.f38 2)) n (s_spec_l24Items_3.enc y) k) (hK k x_spec_l24Items_3) z := by kernel_rfl
theorem hs_spec_l24Items : HintsOk (tab C0 T_spec_l24Items) ⟨36, 36⟩ h_spec_l24Items 1 (loops (codeOf Tryd.f38)) := by
  have hl : loops (codeOf Tryd.f38) = [loopOf Tryd.f38 2, loopOf Tryd.f38 7] := by kernel_rfl
  rw [hl]
  exact HintsOk.cons (n := 3) (lh := lh_spec_l24Items_3) (S := loopX s_spec_l24Items_3 x_spec_l24Items_3 w_spec_l24Items_3) (by kernel_rfl) rfl rfl (loopX_ok nat_spec_l24Items_3 st_spec_l24Items_3)
    (HintsOk.cons (n := 8) (lh := lh_spec_l24Items_8) (S := loopX s_spec_l24Items_8 x_spec_l24Items_8 w_spec_l24Items_8) (by kernel_rfl) rfl rfl (loopX_ok nat_spec_l24Items_8 st_spec_l24Items_8)
    (HintsOk.nil))
noncomputable def t_spec_l24Items {R : Type} (kx : Bool → Option R) (a0 : (List (ByteArray × (Bool × (((Int × (Int × Int)) × (Int × (Int × Int))) × (Int × (Int × (Int × Int)))))))) : Option R :=
  Option.bind (w_spec_l24Items_3 (m_spec_l24Items_3 a0 (0 : Int))) (exC x_spec_l24Items_3
  (fun e87 =>
   kx (e87.1.2.1.1 : Bool), fun e90 =>
   kx (decide ((((List.length (e90.1.1.1 : List (ByteArray × (Bool × (((Int × (Int × Int)) × (Int × (Int × Int))) × (Int × (Int × (Int × Int)))))))) : Nat) : Int) ≤ (40 : Int))), ()))
noncomputable def g_spec_l24Items (a0 : (List (ByteArray × (Bool × (((Int × (Int × Int)) × (Int × (Int × Int))) × (Int × (Int × (Int × Int)))))))) : Option (Bool) := t_spec_l24Items some a0
theorem nat_spec_l24Items {R : Type} (kx : Bool → Option R) (a0 : (List (ByteArray × (Bool × (((Int × (Int × Int)) × (Int × (Int × Int))) × (Int × (Int × (Int × Int)))))))) : t_spec_l24Items kx a0 = (g_spec_l24Items a0).bind kx := by
  unfold g_spec_l24Items t_spec_l24Items
  exact nat_exC ⟨fun _ => rfl, fun _ => rfl, trivial⟩
abbrev as_spec_l24Items : List AX := [.val false (.slice (.pair .str (.pair .bool (.pair (.pair (.pair (.int .i64) (.pair (.int .i64) (.int .i64))) (.pair (.int .i64) (.pair (.int .i64) (.int .i64)))) (.pair (.int .i64) (.pair (.int .i64) (.pair (.int .i64) (.int .i64))))))))]
abbrev en_spec_l24Items : Bool → AV × List CV := fun b => (.one ⟨false, [(.v (.bool b))]⟩, [])
noncomputable abbrev k_spec_l24Items : Contract := .fx as_spec_l24Items (Bool) (fun z => g_spec_l24Items z.1) en_spec_l24Items
theorem r_spec_l24Items (z : argsX as_spec_l24Items) : runF (tab C0 T_spec_l24Items) h_spec_l24Items 1 Tryd.f38 (lentOf as_spec_l24Items) (xBoxes as_spec_l24Items z) (xVals as_spec_l24Items 0 z) K2 = t_spec_l24Items (fun b => some (en_spec_l24Items b)) z.1 := by kernel_rfl
theorem so_spec_l24Items : Sound C0 38 k_spec_l24Items :=
  Sound.fx a_spec_l24Items mixed Tryd.func38 (by kernel_rfl) (by kernel_rfl) h_spec_l24Items 1 hs_spec_l24Items (fun z => (r_spec_l24Items z).trans (nat_spec_l24Items _ z.1))

/-! ### F56 spec.l24At -/
noncomputable def T_spec_l24At : List (FuncId × Contract) := []
theorem a_spec_l24At : AllSound C0 T_spec_l24At := .nil
abbrev s_spec_l24At_3 : LS := ⟨[(false, [(.sl (.pair .str (.pair .bool (.pair (.pair (.pair (.int .i64) (.pair (.int .i64) (.int .i64))) (.pair (.int .i64) (.pair (.int .i64) (.int .i64)))) (.pair (.int .i64) (.pair (.int .i64) (.pair (.int .i64) (.int .i64))))))))]), (false, [.str]), (false, [(.int .i64)])], [], []⟩
abbrev e_spec_l24At_3_0 : LS := ⟨[(false, [(.int .i64)])], [], []⟩
abbrev d_spec_l24At_3_0 (v0 : Int) : e_spec_l24At_3_0.T := (((v0, ()), ()), (), ())
abbrev e_spec_l24At_3_1 : LS := ⟨[(false, [.undef])], [], []⟩
abbrev d_spec_l24At_3_1 : e_spec_l24At_3_1.T := ((((), ()), ()), (), ())
abbrev x_spec_l24At_3 : List (Ex × LS) := [(.ret, e_spec_l24At_3_0), (.exit 0, e_spec_l24At_3_1)]
abbrev m_spec_l24At_3 (x0 : List (ByteArray × (Bool × (((Int × (Int × Int)) × (Int × (Int × Int))) × (Int × (Int × (Int × Int))))))) (x1 : ByteArray) (x5 : Int) : s_spec_l24At_3.T := (((x0, ()), (x1, ()), (x5, ()), ()), (), ())
noncomputable def u_spec_l24At_3 {R : Type} (nx : s_spec_l24At_3.T → Option R) (hx : exH R x_spec_l24At_3) (x0 : List (ByteArray × (Bool × (((Int × (Int × Int)) × (Int × (Int × Int))) × (Int × (Int × (Int × Int))))))) (x1 : ByteArray) (x5 : Int) : Option R :=
  cond (decide (x5 < (((List.length x0) : Nat) : Int)))
  (Option.bind (idx x0 x5) fun y98 =>
   cond ((ByteArray.toList y98.1) == (ByteArray.toList x1))
   (hx.1 (d_spec_l24At_3_0 x5))
   (nx (m_spec_l24At_3 x0 x1 (IntKind.wrap IntKind.i64 (x5 + (1 : Int))))))
  (hx.2.1 (d_spec_l24At_3_1))
noncomputable def t_spec_l24At_3 {R : Type} (nx : s_spec_l24At_3.T → Option R) (hx : exH R x_spec_l24At_3) (z : s_spec_l24At_3.T) : Option R := u_spec_l24At_3 nx hx z.1.1.1 z.1.2.1.1 z.1.2.2.1.1
theorem nat_spec_l24At_3 : Natural @t_spec_l24At_3 := fun R nx hx z => by
  show u_spec_l24At_3 nx hx z.1.1.1 z.1.2.1.1 z.1.2.2.1.1 = (u_spec_l24At_3 (fun y => some (.inl y)) (hIn x_spec_l24At_3 fun x => some (.inr x)) z.1.1.1 z.1.2.1.1 z.1.2.2.1.1).bind (goOn nx hx)
  unfold u_spec_l24At_3
  exact nat_cond (nat_bind fun _ => nat_cond (rfl) (rfl)) (rfl)
noncomputable def w_spec_l24At_3 : s_spec_l24At_3.T → Option (exT x_spec_l24At_3) := wOf @t_spec_l24At_3
theorem wq_spec_l24At_3 (x0 : List (ByteArray × (Bool × (((Int × (Int × Int)) × (Int × (Int × Int))) × (Int × (Int × (Int × Int))))))) (x1 : ByteArray) (x5 : Int) : w_spec_l24At_3 (m_spec_l24At_3 x0 x1 x5) = u_spec_l24At_3 w_spec_l24At_3 (hIn x_spec_l24At_3 some) x0 x1 x5 := wOf_eq nat_spec_l24At_3 _
def lh_spec_l24At_3 : LoopHint := ⟨[0, 1, 5], [], [4], []⟩
noncomputable def h_spec_l24At : Hints Rv := ⟨fun k => match k with | 3 => lh_spec_l24At_3 | _ => ⟨[], [], [], []⟩, fun k => match k with | 3 => some (loopX s_spec_l24At_3 x_spec_l24At_3 w_spec_l24At_3) | _ => none⟩
theorem st_spec_l24At_3 (n : Nat) (z : s_spec_l24At_3.T) (k : Ex → Live → Option Rv) : loopN ⟨20, 20⟩ lh_spec_l24At_3 (den (tab C0 T_spec_l24At) ⟨20, 20⟩ h_spec_l24At 1 (loopOf Tryd.f56 2)) (n + 1) (s_spec_l24At_3.enc z) k =
    t_spec_l24At_3 (fun y => loopN ⟨20, 20⟩ lh_spec_l24At_3 (den (tab C0 T_spec_l24At) ⟨20, 20⟩ h_spec_l24At 1 (loopOf Tryd.f56 2)) n (s_spec_l24At_3.enc y) k) (hK k x_spec_l24At_3) z := by kernel_rfl
theorem hs_spec_l24At : HintsOk (tab C0 T_spec_l24At) ⟨20, 20⟩ h_spec_l24At 1 (loops (codeOf Tryd.f56)) := by
  have hl : loops (codeOf Tryd.f56) = [loopOf Tryd.f56 2] := by kernel_rfl
  rw [hl]
  exact HintsOk.cons (n := 3) (lh := lh_spec_l24At_3) (S := loopX s_spec_l24At_3 x_spec_l24At_3 w_spec_l24At_3) (by kernel_rfl) rfl rfl (loopX_ok nat_spec_l24At_3 st_spec_l24At_3)
    (HintsOk.nil)
noncomputable def t_spec_l24At {R : Type} (kx : Int → Option R) (a0 : (List (ByteArray × (Bool × (((Int × (Int × Int)) × (Int × (Int × Int))) × (Int × (Int × (Int × Int)))))))) (a1 : ByteArray) : Option R :=
  Option.bind (w_spec_l24At_3 (m_spec_l24At_3 a0 a1 (0 : Int))) (exC x_spec_l24At_3
  (fun e99 =>
   kx (e99.1.1.1 : Int), fun _ =>
   kx (-(1 : Int)), ()))
noncomputable def g_spec_l24At (a0 : (List (ByteArray × (Bool × (((Int × (Int × Int)) × (Int × (Int × Int))) × (Int × (Int × (Int × Int)))))))) (a1 : ByteArray) : Option (Int) := t_spec_l24At some a0 a1
theorem nat_spec_l24At {R : Type} (kx : Int → Option R) (a0 : (List (ByteArray × (Bool × (((Int × (Int × Int)) × (Int × (Int × Int))) × (Int × (Int × (Int × Int)))))))) (a1 : ByteArray) : t_spec_l24At kx a0 a1 = (g_spec_l24At a0 a1).bind kx := by
  unfold g_spec_l24At t_spec_l24At
  exact nat_exC ⟨fun _ => rfl, fun _ => rfl, trivial⟩
abbrev as_spec_l24At : List AX := [.val false (.slice (.pair .str (.pair .bool (.pair (.pair (.pair (.int .i64) (.pair (.int .i64) (.int .i64))) (.pair (.int .i64) (.pair (.int .i64) (.int .i64)))) (.pair (.int .i64) (.pair (.int .i64) (.pair (.int .i64) (.int .i64)))))))), .val false .str]
abbrev en_spec_l24At : Int → AV × List CV := fun b => (.one ⟨false, [(.v (.int .i64 b))]⟩, [])
noncomputable abbrev k_spec_l24At : Contract := .fx as_spec_l24At (Int) (fun z => g_spec_l24At z.1 z.2.1) en_spec_l24At
theorem r_spec_l24At (z : argsX as_spec_l24At) : runF (tab C0 T_spec_l24At) h_spec_l24At 1 Tryd.f56 (lentOf as_spec_l24At) (xBoxes as_spec_l24At z) (xVals as_spec_l24At 0 z) K2 = t_spec_l24At (fun b => some (en_spec_l24At b)) z.1 z.2.1 := by kernel_rfl
theorem so_spec_l24At : Sound C0 56 k_spec_l24At :=
  Sound.fx a_spec_l24At mixed Tryd.func56 (by kernel_rfl) (by kernel_rfl) h_spec_l24At 1 hs_spec_l24At (fun z => (r_spec_l24At z).trans (nat_spec_l24At _ z.1 z.2.1))

/-! ### F18 spec.FindItem -/
noncomputable def T_spec_FindItem : List (FuncId × Contract) := [(38, k_spec_l24Items), (56, k_spec_l24At)]
theorem a_spec_FindItem : AllSound C0 T_spec_FindItem := .cons so_spec_l24Items (.cons so_spec_l24At (.nil))
noncomputable def t_spec_FindItem {R : Type} (kx : (ByteArray × (Bool × (((Int × (Int × Int)) × (Int × (Int × Int))) × (Int × (Int × (Int × Int)))))) × Int → Option R) (a0 : (List (ByteArray × (Bool × (((Int × (Int × Int)) × (Int × (Int × Int))) × (Int × (Int × (Int × Int)))))))) (a1 : ByteArray) : Option R :=
  Option.bind (g_spec_l24Items a0) fun y92 =>
  cond (!y92)
  (kx (((ByteArray.mk (Array.mk [])), (Bool.false, ((((0 : Int), ((0 : Int), (0 : Int))), ((0 : Int), ((0 : Int), (0 : Int)))), ((0 : Int), ((0 : Int), ((0 : Int), (0 : Int))))))), (1 : Int)))
  (Option.bind (g_spec_l24At a0 a1) fun y102 =>
   cond (decide (y102 < (0 : Int)))
   (kx (((ByteArray.mk (Array.mk [])), (Bool.false, ((((0 : Int), ((0 : Int), (0 : Int))), ((0 : Int), ((0 : Int), (0 : Int)))), ((0 : Int), ((0 : Int), ((0 : Int), (0 : Int))))))), (3 : Int)))
   (Option.bind (idx a0 y102) fun y103 =>
    kx (y103, (0 : Int))))
noncomputable def g_spec_FindItem (a0 : (List (ByteArray × (Bool × (((Int × (Int × Int)) × (Int × (Int × Int))) × (Int × (Int × (Int × Int)))))))) (a1 : ByteArray) : Option ((ByteArray × (Bool × (((Int × (Int × Int)) × (Int × (Int × Int))) × (Int × (Int × (Int × Int)))))) × Int) := t_spec_FindItem some a0 a1
theorem nat_spec_FindItem {R : Type} (kx : (ByteArray × (Bool × (((Int × (Int × Int)) × (Int × (Int × Int))) × (Int × (Int × (Int × Int)))))) × Int → Option R) (a0 : (List (ByteArray × (Bool × (((Int × (Int × Int)) × (Int × (Int × Int))) × (Int × (Int × (Int × Int)))))))) (a1 : ByteArray) : t_spec_FindItem kx a0 a1 = (g_spec_FindItem a0 a1).bind kx := by
  unfold g_spec_FindItem t_spec_FindItem
  exact nat_bind fun _ => nat_cond (rfl) (nat_bind fun _ => nat_cond (rfl) (nat_bind fun _ => rfl))
abbrev as_spec_FindItem : List AX := [.val false (.slice (.pair .str (.pair .bool (.pair (.pair (.pair (.int .i64) (.pair (.int .i64) (.int .i64))) (.pair (.int .i64) (.pair (.int .i64) (.int .i64)))) (.pair (.int .i64) (.pair (.int .i64) (.pair (.int .i64) (.int .i64)))))))), .val false .str]
abbrev en_spec_FindItem : (ByteArray × (Bool × (((Int × (Int × Int)) × (Int × (Int × Int))) × (Int × (Int × (Int × Int)))))) × Int → AV × List CV := fun b => (.tup [⟨true, [(.v (.string b.1.1)), (.v (.bool b.1.2.1)), (.v (.int .i64 b.1.2.2.1.1.1)), (.v (.int .i64 b.1.2.2.1.1.2.1)), (.v (.int .i64 b.1.2.2.1.1.2.2)), (.v (.int .i64 b.1.2.2.1.2.1)), (.v (.int .i64 b.1.2.2.1.2.2.1)), (.v (.int .i64 b.1.2.2.1.2.2.2)), (.v (.int .i64 b.1.2.2.2.1)), (.v (.int .i64 b.1.2.2.2.2.1)), (.v (.int .i64 b.1.2.2.2.2.2.1)), (.v (.int .i64 b.1.2.2.2.2.2.2))]⟩, ⟨false, [(.v (.int .i64 b.2))]⟩], [])
noncomputable abbrev k_spec_FindItem : Contract := .fx as_spec_FindItem ((ByteArray × (Bool × (((Int × (Int × Int)) × (Int × (Int × Int))) × (Int × (Int × (Int × Int)))))) × Int) (fun z => g_spec_FindItem z.1 z.2.1) en_spec_FindItem
theorem r_spec_FindItem (z : argsX as_spec_FindItem) : runF (tab C0 T_spec_FindItem) noHints 1 Tryd.f18 (lentOf as_spec_FindItem) (xBoxes as_spec_FindItem z) (xVals as_spec_FindItem 0 z) K2 = t_spec_FindItem (fun b => some (en_spec_FindItem b)) z.1 z.2.1 := by kernel_rfl
theorem so_spec_FindItem : Sound C0 18 k_spec_FindItem :=
  Sound.fx a_spec_FindItem mixed Tryd.func18 (by kernel_rfl) (by kernel_rfl) noHints 1 noHints_ok (fun z => (r_spec_FindItem z).trans (nat_spec_FindItem _ z.1 z.2.1))

/-! ### F48 impl.within -/
noncomputable def T_impl_within : List (FuncId × Contract) := []
theorem a_impl_within : AllSound C0 T_impl_within := .nil
noncomputable def t_impl_within {R : Type} (kx : Bool → Option R) (a0 : Int) (a1 : Int) (a2 : Int) : Option R :=
  cond (decide (a0 ≥ a1))
  (kx (decide (a0 ≤ a2)))
  (kx Bool.false)
noncomputable def g_impl_within (a0 : Int) (a1 : Int) (a2 : Int) : Option (Bool) := t_impl_within some a0 a1 a2
theorem nat_impl_within {R : Type} (kx : Bool → Option R) (a0 : Int) (a1 : Int) (a2 : Int) : t_impl_within kx a0 a1 a2 = (g_impl_within a0 a1 a2).bind kx := by
  unfold g_impl_within t_impl_within
  exact nat_cond (rfl) (rfl)
abbrev as_impl_within : List AX := [.val false (.int .i64), .val false (.int .i64), .val false (.int .i64)]
abbrev en_impl_within : Bool → AV × List CV := fun b => (.one ⟨false, [(.v (.bool b))]⟩, [])
noncomputable abbrev k_impl_within : Contract := .fx as_impl_within (Bool) (fun z => g_impl_within z.1 z.2.1 z.2.2.1) en_impl_within
theorem r_impl_within (z : argsX as_impl_within) : runF (tab C0 T_impl_within) noHints 1 Tryd.f48 (lentOf as_impl_within) (xBoxes as_impl_within z) (xVals as_impl_within 0 z) K2 = t_impl_within (fun b => some (en_impl_within b)) z.1 z.2.1 z.2.2.1 := by kernel_rfl
theorem so_impl_within : Sound C0 48 k_impl_within :=
  Sound.fx a_impl_within mixed Tryd.func48 (by kernel_rfl) (by kernel_rfl) noHints 1 noHints_ok (fun z => (r_impl_within z).trans (nat_impl_within _ z.1 z.2.1 z.2.2.1))

/-! ### F47 impl.IsName -/
noncomputable def T_impl_IsName : List (FuncId × Contract) := [(48, k_impl_within), (89, k_strings_Trim), (90, k_strings_IndexByte)]
theorem a_impl_IsName : AllSound C0 T_impl_IsName := .cons so_impl_within (.cons so_strings_Trim (.cons so_strings_IndexByte (.nil)))
noncomputable def t_impl_IsName {R : Type} (kx : Bool → Option R) (a0 : ByteArray) : Option R :=
  Option.bind (g_impl_within (((ByteArray.size a0) : Nat) : Int) (1 : Int) (12 : Int)) fun y119 =>
  cond y119
  (Option.bind (g_strings_Trim a0 (ByteArray.mk (Array.mk [97, 98, 99, 100, 101, 102, 103, 104, 105, 106, 107, 108, 109, 110, 111, 112, 113, 114, 115, 116, 117, 118, 119, 120, 121, 122, 65, 66, 67, 68, 69, 70, 71, 72, 73, 74, 75, 76, 77, 78, 79, 80, 81, 82, 83, 84, 85, 86, 87, 88, 89, 90, 48, 49, 50, 51, 52, 53, 54, 55, 56, 57, 95]))) fun y120 =>
   cond ((ByteArray.toList y120) == (ByteArray.toList (ByteArray.mk (Array.mk []))))
   (Option.bind (idxB a0 (0 : Int)) fun y121 =>
    Option.bind (g_strings_IndexByte (ByteArray.mk (Array.mk [97, 98, 99, 100, 101, 102, 103, 104, 105, 106, 107, 108, 109, 110, 111, 112, 113, 114, 115, 116, 117, 118, 119, 120, 121, 122, 65, 66, 67, 68, 69, 70, 71, 72, 73, 74, 75, 76, 77, 78, 79, 80, 81, 82, 83, 84, 85, 86, 87, 88, 89, 90])) (((UInt8.toNat y121) : Nat) : Int)) fun y122 =>
    kx (decide (y122 ≥ (0 : Int))))
   (kx Bool.false))
  (kx Bool.false)
noncomputable def g_impl_IsName (a0 : ByteArray) : Option (Bool) := t_impl_IsName some a0
theorem nat_impl_IsName {R : Type} (kx : Bool → Option R) (a0 : ByteArray) : t_impl_IsName kx a0 = (g_impl_IsName a0).bind kx := by
  unfold g_impl_IsName t_impl_IsName
  exact nat_bind fun _ => nat_cond (nat_bind fun _ => nat_cond (nat_bind fun _ => nat_bind fun _ => rfl) (rfl)) (rfl)
abbrev as_impl_IsName : List AX := [.val false .str]
abbrev en_impl_IsName : Bool → AV × List CV := fun b => (.one ⟨false, [(.v (.bool b))]⟩, [])
noncomputable abbrev k_impl_IsName : Contract := .fx as_impl_IsName (Bool) (fun z => g_impl_IsName z.1) en_impl_IsName
theorem r_impl_IsName (z : argsX as_impl_IsName) : runF (tab C0 T_impl_IsName) noHints 1 Tryd.f47 (lentOf as_impl_IsName) (xBoxes as_impl_IsName z) (xVals as_impl_IsName 0 z) K2 = t_impl_IsName (fun b => some (en_impl_IsName b)) z.1 := by kernel_rfl
theorem so_impl_IsName : Sound C0 47 k_impl_IsName :=
  Sound.fx a_impl_IsName mixed Tryd.func47 (by kernel_rfl) (by kernel_rfl) noHints 1 noHints_ok (fun z => (r_impl_IsName z).trans (nat_impl_IsName _ z.1))

/-! ### F92 impl.ValidNum -/
noncomputable def T_impl_ValidNum : List (FuncId × Contract) := [(48, k_impl_within)]
theorem a_impl_ValidNum : AllSound C0 T_impl_ValidNum := .cons so_impl_within (.nil)
noncomputable def t_impl_ValidNum {R : Type} (kx : Bool → Option R) (a0 : (Int × (Int × Int))) : Option R :=
  Option.bind (g_impl_within a0.1 (-(131072 : Int)) (131072 : Int)) fun y127 =>
  cond y127
  (Option.bind (g_impl_within a0.2.1 (-(131072 : Int)) (131072 : Int)) fun y128 =>
   cond y128
   (Option.bind (g_impl_within a0.2.2 (0 : Int) (10 : Int)) fun y129 =>
    cond y129
    (cond (a0.2.2 == (0 : Int))
     (kx Bool.true)
     (cond ((IntKind.wrap IntKind.i64 (((BitVec.toNat ((BitVec.ofInt 64 a0.1) &&& (BitVec.ofInt 64 (1 : Int)))) : Nat) : Int)) == (1 : Int))
      (kx Bool.true)
      (kx ((IntKind.wrap IntKind.i64 (((BitVec.toNat ((BitVec.ofInt 64 a0.2.1) &&& (BitVec.ofInt 64 (1 : Int)))) : Nat) : Int)) == (1 : Int)))))
    (kx Bool.false))
   (kx Bool.false))
  (kx Bool.false)
noncomputable def g_impl_ValidNum (a0 : (Int × (Int × Int))) : Option (Bool) := t_impl_ValidNum some a0
theorem nat_impl_ValidNum {R : Type} (kx : Bool → Option R) (a0 : (Int × (Int × Int))) : t_impl_ValidNum kx a0 = (g_impl_ValidNum a0).bind kx := by
  unfold g_impl_ValidNum t_impl_ValidNum
  exact nat_bind fun _ => nat_cond (nat_bind fun _ => nat_cond (nat_bind fun _ => nat_cond (nat_cond (rfl) (nat_cond (rfl) (rfl))) (rfl)) (rfl)) (rfl)
abbrev as_impl_ValidNum : List AX := [.val true (.pair (.int .i64) (.pair (.int .i64) (.int .i64)))]
abbrev en_impl_ValidNum : Bool → AV × List CV := fun b => (.one ⟨false, [(.v (.bool b))]⟩, [])
noncomputable abbrev k_impl_ValidNum : Contract := .fx as_impl_ValidNum (Bool) (fun z => g_impl_ValidNum z.1) en_impl_ValidNum
theorem r_impl_ValidNum (z : argsX as_impl_ValidNum) : runF (tab C0 T_impl_ValidNum) noHints 1 Tryd.f92 (lentOf as_impl_ValidNum) (xBoxes as_impl_ValidNum z) (xVals as_impl_ValidNum 0 z) K2 = t_impl_ValidNum (fun b => some (en_impl_ValidNum b)) z.1 := by kernel_rfl
theorem so_impl_ValidNum : Sound C0 92 k_impl_ValidNum :=
  Sound.fx a_impl_ValidNum mixed Tryd.func92 (by kernel_rfl) (by kernel_rfl) noHints 1 noHints_ok (fun z => (r_impl_ValidNum z).trans (nat_impl_ValidNum _ z.1))

/-! ### F52 impl.ValidLine -/
noncomputable def T_impl_ValidLine : List (FuncId × Contract) := [(48, k_impl_within), (92, k_impl_ValidNum)]
theorem a_impl_ValidLine : AllSound C0 T_impl_ValidLine := .cons so_impl_within (.cons so_impl_ValidNum (.nil))
noncomputable def t_impl_ValidLine {R : Type} (kx : Bool → Option R) (a0 : (Int × (Int × (Int × Int)))) : Option R :=
  Option.bind (g_impl_within a0.1 (0 : Int) (7 : Int)) fun y125 =>
  cond y125
  (Option.bind (g_impl_ValidNum a0.2) fun y130 =>
   kx y130)
  (kx Bool.false)
noncomputable def g_impl_ValidLine (a0 : (Int × (Int × (Int × Int)))) : Option (Bool) := t_impl_ValidLine some a0
theorem nat_impl_ValidLine {R : Type} (kx : Bool → Option R) (a0 : (Int × (Int × (Int × Int)))) : t_impl_ValidLine kx a0 = (g_impl_ValidLine a0).bind kx := by
  unfold g_impl_ValidLine t_impl_ValidLine
  exact nat_bind fun _ => nat_cond (nat_bind fun _ => rfl) (rfl)
abbrev as_impl_ValidLine : List AX := [.val true (.pair (.int .i64) (.pair (.int .i64) (.pair (.int .i64) (.int .i64))))]
abbrev en_impl_ValidLine : Bool → AV × List CV := fun b => (.one ⟨false, [(.v (.bool b))]⟩, [])
noncomputable abbrev k_impl_ValidLine : Contract := .fx as_impl_ValidLine (Bool) (fun z => g_impl_ValidLine z.1) en_impl_ValidLine
theorem r_impl_ValidLine (z : argsX as_impl_ValidLine) : runF (tab C0 T_impl_ValidLine) noHints 1 Tryd.f52 (lentOf as_impl_ValidLine) (xBoxes as_impl_ValidLine z) (xVals as_impl_ValidLine 0 z) K2 = t_impl_ValidLine (fun b => some (en_impl_ValidLine b)) z.1 := by kernel_rfl
theorem so_impl_ValidLine : Sound C0 52 k_impl_ValidLine :=
  Sound.fx a_impl_ValidLine mixed Tryd.func52 (by kernel_rfl) (by kernel_rfl) noHints 1 noHints_ok (fun z => (r_impl_ValidLine z).trans (nat_impl_ValidLine _ z.1))

/-! ### F51 impl.ValidPoint -/
noncomputable def T_impl_ValidPoint : List (FuncId × Contract) := [(92, k_impl_ValidNum)]
theorem a_impl_ValidPoint : AllSound C0 T_impl_ValidPoint := .cons so_impl_ValidNum (.nil)
noncomputable def t_impl_ValidPoint {R : Type} (kx : Bool → Option R) (a0 : ((Int × (Int × Int)) × (Int × (Int × Int)))) : Option R :=
  Option.bind (g_impl_ValidNum a0.1) fun y134 =>
  cond y134
  (Option.bind (g_impl_ValidNum a0.2) fun y135 =>
   kx y135)
  (kx Bool.false)
noncomputable def g_impl_ValidPoint (a0 : ((Int × (Int × Int)) × (Int × (Int × Int)))) : Option (Bool) := t_impl_ValidPoint some a0
theorem nat_impl_ValidPoint {R : Type} (kx : Bool → Option R) (a0 : ((Int × (Int × Int)) × (Int × (Int × Int)))) : t_impl_ValidPoint kx a0 = (g_impl_ValidPoint a0).bind kx := by
  unfold g_impl_ValidPoint t_impl_ValidPoint
  exact nat_bind fun _ => nat_cond (nat_bind fun _ => rfl) (rfl)
abbrev as_impl_ValidPoint : List AX := [.val true (.pair (.pair (.int .i64) (.pair (.int .i64) (.int .i64))) (.pair (.int .i64) (.pair (.int .i64) (.int .i64))))]
abbrev en_impl_ValidPoint : Bool → AV × List CV := fun b => (.one ⟨false, [(.v (.bool b))]⟩, [])
noncomputable abbrev k_impl_ValidPoint : Contract := .fx as_impl_ValidPoint (Bool) (fun z => g_impl_ValidPoint z.1) en_impl_ValidPoint
theorem r_impl_ValidPoint (z : argsX as_impl_ValidPoint) : runF (tab C0 T_impl_ValidPoint) noHints 1 Tryd.f51 (lentOf as_impl_ValidPoint) (xBoxes as_impl_ValidPoint z) (xVals as_impl_ValidPoint 0 z) K2 = t_impl_ValidPoint (fun b => some (en_impl_ValidPoint b)) z.1 := by kernel_rfl
theorem so_impl_ValidPoint : Sound C0 51 k_impl_ValidPoint :=
  Sound.fx a_impl_ValidPoint mixed Tryd.func51 (by kernel_rfl) (by kernel_rfl) noHints 1 noHints_ok (fun z => (r_impl_ValidPoint z).trans (nat_impl_ValidPoint _ z.1))

/-! ### F40 impl.isItem -/
noncomputable def T_impl_isItem : List (FuncId × Contract) := [(47, k_impl_IsName), (52, k_impl_ValidLine), (51, k_impl_ValidPoint)]
theorem a_impl_isItem : AllSound C0 T_impl_isItem := .cons so_impl_IsName (.cons so_impl_ValidLine (.cons so_impl_ValidPoint (.nil)))
noncomputable def t_impl_isItem {R : Type} (kx : Bool → Option R) (a0 : (ByteArray × (Bool × (((Int × (Int × Int)) × (Int × (Int × Int))) × (Int × (Int × (Int × Int))))))) : Option R :=
  cond a0.2.1
  (Option.bind (g_impl_IsName a0.1) fun y123 =>
   cond y123
   (Option.bind (g_impl_ValidLine a0.2.2.2) fun y131 =>
    cond y131
    (kx (((a0.2.2.1.1.1 == (0 : Int)) && ((a0.2.2.1.1.2.1 == (0 : Int)) && ((a0.2.2.1.1.2.2 == (0 : Int)) && Bool.true))) && (((a0.2.2.1.2.1 == (0 : Int)) && ((a0.2.2.1.2.2.1 == (0 : Int)) && ((a0.2.2.1.2.2.2 == (0 : Int)) && Bool.true))) && Bool.true)))
    (kx Bool.false))
   (kx Bool.false))
  (Option.bind (g_impl_IsName a0.1) fun y132 =>
   cond y132
   (Option.bind (g_impl_ValidPoint a0.2.2.1) fun y136 =>
    cond y136
    (kx ((a0.2.2.2.1 == (0 : Int)) && (((a0.2.2.2.2.1 == (0 : Int)) && ((a0.2.2.2.2.2.1 == (0 : Int)) && ((a0.2.2.2.2.2.2 == (0 : Int)) && Bool.true))) && Bool.true)))
    (kx Bool.false))
   (kx Bool.false))
noncomputable def g_impl_isItem (a0 : (ByteArray × (Bool × (((Int × (Int × Int)) × (Int × (Int × Int))) × (Int × (Int × (Int × Int))))))) : Option (Bool) := t_impl_isItem some a0
theorem nat_impl_isItem {R : Type} (kx : Bool → Option R) (a0 : (ByteArray × (Bool × (((Int × (Int × Int)) × (Int × (Int × Int))) × (Int × (Int × (Int × Int))))))) : t_impl_isItem kx a0 = (g_impl_isItem a0).bind kx := by
  unfold g_impl_isItem t_impl_isItem
  exact nat_cond (nat_bind fun _ => nat_cond (nat_bind fun _ => nat_cond (rfl) (rfl)) (rfl)) (nat_bind fun _ => nat_cond (nat_bind fun _ => nat_cond (rfl) (rfl)) (rfl))
abbrev as_impl_isItem : List AX := [.val true (.pair .str (.pair .bool (.pair (.pair (.pair (.int .i64) (.pair (.int .i64) (.int .i64))) (.pair (.int .i64) (.pair (.int .i64) (.int .i64)))) (.pair (.int .i64) (.pair (.int .i64) (.pair (.int .i64) (.int .i64)))))))]
abbrev en_impl_isItem : Bool → AV × List CV := fun b => (.one ⟨false, [(.v (.bool b))]⟩, [])
noncomputable abbrev k_impl_isItem : Contract := .fx as_impl_isItem (Bool) (fun z => g_impl_isItem z.1) en_impl_isItem
theorem r_impl_isItem (z : argsX as_impl_isItem) : runF (tab C0 T_impl_isItem) noHints 1 Tryd.f40 (lentOf as_impl_isItem) (xBoxes as_impl_isItem z) (xVals as_impl_isItem 0 z) K2 = t_impl_isItem (fun b => some (en_impl_isItem b)) z.1 := by kernel_rfl
theorem so_impl_isItem : Sound C0 40 k_impl_isItem :=
  Sound.fx a_impl_isItem mixed Tryd.func40 (by kernel_rfl) (by kernel_rfl) noHints 1 noHints_ok (fun z => (r_impl_isItem z).trans (nat_impl_isItem _ z.1))

/-! ### F81 impl.itemIndex$1 -/
noncomputable def T_impl_itemIndex_1 : List (FuncId × Contract) := []
theorem a_impl_itemIndex_1 : AllSound C0 T_impl_itemIndex_1 := .nil
noncomputable def t_impl_itemIndex_1 {R : Type} (kx : Bool → Option R) (a0 : (ByteArray × (Bool × (((Int × (Int × Int)) × (Int × (Int × Int))) × (Int × (Int × (Int × Int))))))) (a1 : ByteArray) : Option R :=
  kx ((ByteArray.toList a0.1) == (ByteArray.toList a1))
noncomputable def g_impl_itemIndex_1 (a0 : (ByteArray × (Bool × (((Int × (Int × Int)) × (Int × (Int × Int))) × (Int × (Int × (Int × Int))))))) (a1 : ByteArray) : Option (Bool) := t_impl_itemIndex_1 some a0 a1
theorem nat_impl_itemIndex_1 {R : Type} (kx : Bool → Option R) (a0 : (ByteArray × (Bool × (((Int × (Int × Int)) × (Int × (Int × Int))) × (Int × (Int × (Int × Int))))))) (a1 : ByteArray) : t_impl_itemIndex_1 kx a0 a1 = (g_impl_itemIndex_1 a0 a1).bind kx := by
  unfold g_impl_itemIndex_1 t_impl_itemIndex_1
  exact rfl
abbrev as_impl_itemIndex_1 : List AX := [.val true (.pair .str (.pair .bool (.pair (.pair (.pair (.int .i64) (.pair (.int .i64) (.int .i64))) (.pair (.int .i64) (.pair (.int .i64) (.int .i64)))) (.pair (.int .i64) (.pair (.int .i64) (.pair (.int .i64) (.int .i64))))))), .ptr .str]
abbrev en_impl_itemIndex_1 : Bool → AV × List CV := fun b => (.one ⟨false, [(.v (.bool b))]⟩, [])
noncomputable abbrev k_impl_itemIndex_1 : Contract := .fx as_impl_itemIndex_1 (Bool) (fun z => g_impl_itemIndex_1 z.1 z.2.1) en_impl_itemIndex_1
theorem r_impl_itemIndex_1 (z : argsX as_impl_itemIndex_1) : runF (tab C0 T_impl_itemIndex_1) noHints 1 Tryd.f81 (lentOf as_impl_itemIndex_1) (xBoxes as_impl_itemIndex_1 z) (xVals as_impl_itemIndex_1 0 z) K2 = t_impl_itemIndex_1 (fun b => some (en_impl_itemIndex_1 b)) z.1 z.2.1 := by kernel_rfl
theorem so_impl_itemIndex_1 : Sound C0 81 k_impl_itemIndex_1 :=
  Sound.fx a_impl_itemIndex_1 mixed Tryd.func81 (by kernel_rfl) (by kernel_rfl) noHints 1 noHints_ok (fun z => (r_impl_itemIndex_1 z).trans (nat_impl_itemIndex_1 _ z.1 z.2.1))

/-! ### F80 slices.IndexFunc[[]impl.Item,impl.Item] -/
noncomputable def T_slices_IndexFunc_Simpl_Item_impl_Item__impl_itemIndex_1 : List (FuncId × Contract) := [(81, k_impl_itemIndex_1)]
theorem a_slices_IndexFunc_Simpl_Item_impl_Item__impl_itemIndex_1 : AllSound C0 T_slices_IndexFunc_Simpl_Item_impl_Item__impl_itemIndex_1 := .cons so_impl_itemIndex_1 (.nil)
abbrev s_slices_IndexFunc_Simpl_Item_impl_Item__impl_itemIndex_1_3 : LS := ⟨[(false, [(.sl (.pair .str (.pair .bool (.pair (.pair (.pair (.int .i64) (.pair (.int .i64) (.int .i64))) (.pair (.int .i64) (.pair (.int .i64) (.int .i64)))) (.pair (.int .i64) (.pair (.int .i64) (.pair (.int .i64) (.int .i64))))))))]), (false, [(.fn 81 [(19, 0)])]), (false, [(.int .i64)]), (false, [(.int .i64)])], [(true, [.str])], []⟩
abbrev e_slices_IndexFunc_Simpl_Item_impl_Item__impl_itemIndex_1_3_0 : LS := ⟨[(false, [(.int .i64)])], [], []⟩
abbrev d_slices_IndexFunc_Simpl_Item_impl_Item__impl_itemIndex_1_3_0 (v0 : Int) : e_slices_IndexFunc_Simpl_Item_impl_Item__impl_itemIndex_1_3_0.T := (((v0, ()), ()), (), ())
abbrev e_slices_IndexFunc_Simpl_Item_impl_Item__impl_itemIndex_1_3_1 : LS := ⟨[(false, [.undef])], [], []⟩
abbrev d_slices_IndexFunc_Simpl_Item_impl_Item__impl_itemIndex_1_3_1 : e_slices_IndexFunc_Simpl_Item_impl_Item__impl_itemIndex_1_3_1.T := ((((), ()), ()), (), ())
abbrev x_slices_IndexFunc_Simpl_Item_impl_Item__impl_itemIndex_1_3 : List (Ex × LS) := [(.ret, e_slices_IndexFunc_Simpl_Item_impl_Item__impl_itemIndex_1_3_0), (.exit 0, e_slices_IndexFunc_Simpl_Item_impl_Item__impl_itemIndex_1_3_1)]
abbrev m_slices_IndexFunc_Simpl_Item_impl_Item__impl_itemIndex_1_3 (x0 : List (ByteArray × (Bool × (((Int × (Int × Int)) × (Int × (Int × Int))) × (Int × (Int × (Int × Int))))))) (x7 : Int) (x8 : Int) (b0 : ByteArray) : s_slices_IndexFunc_Simpl_Item_impl_Item__impl_itemIndex_1_3.T := (((x0, ()), ((), ()), (x7, ()), (x8, ()), ()), ((b0, ()), ()), ())
noncomputable def u_slices_IndexFunc_Simpl_Item_impl_Item__impl_itemIndex_1_3 {R : Type} (nx : s_slices_IndexFunc_Simpl_Item_impl_Item__impl_itemIndex_1_3.T → Option R) (hx : exH R x_slices_IndexFunc_Simpl_Item_impl_Item__impl_itemIndex_1_3) (x0 : List (ByteArray × (Bool × (((Int × (Int × Int)) × (Int × (Int × Int))) × (Int × (Int × (Int × Int))))))) (x7 : Int) (x8 : Int) (b0 : ByteArray) : Option R :=
  cond (decide (x8 < x7))
  (Option.bind (idx x0 x8) fun y146 =>
   Option.bind (g_impl_itemIndex_1 y146 b0) fun y149 =>
   cond y149
   (hx.1 (d_slices_IndexFunc_Simpl_Item_impl_Item__impl_itemIndex_1_3_0 x8))
   (nx (m_slices_IndexFunc_Simpl_Item_impl_Item__impl_itemIndex_1_3 x0 x7 (IntKind.wrap IntKind.i64 (x8 + (1 : Int))) b0)))
  (hx.2.1 (d_slices_IndexFunc_Simpl_Item_impl_Item__impl_itemIndex_1_3_1))
noncomputable def t_slices_IndexFunc_Simpl_Item_impl_Item__impl_itemIndex_1_3 {R : Type} (nx : s_slices_IndexFunc_Simpl_Item_impl_Item__impl_itemIndex_1_3.T → Option R) (hx : exH R x_slices_IndexFunc_Simpl_Item_impl_Item__impl_itemIndex_1_3) (z : s_slices_IndexFunc_Simpl_Item_impl_Item__impl_itemIndex_1_3.T) : Option R := u_slices_IndexFunc_Simpl_Item_impl_Item__impl_itemIndex_1_3 nx hx z.1.1.1 z.1.2.2.1.1 z.1.2.2.2.1.1 z.2.1.1.1
theorem nat_slices_IndexFunc_Simpl_Item_impl_Item__impl_itemIndex_1_3 : Natural @t_slices_IndexFunc_Simpl_Item_impl_Item__impl_itemIndex_1_3 := fun R nx hx z => by
  show u_slices_IndexFunc_Simpl_Item_impl_Item__impl_itemIndex_1_3 nx hx z.1.1.1 z.1.2.2.1.1 z.1.2.2.2.1.1 z.2.1.1.1 = (u_slices_IndexFunc_Simpl_Item_impl_Item__impl_itemIndex_1_3 (fun y => some (.inl y)) (hIn x_slices_IndexFunc_Simpl_Item_impl_Item__impl_itemIndex_1_3 fun x => some (.inr x)) z.1.1.1 z.1.2.2.1.1 z.1.2.2.2.1.1 z.2.1.1.1).bind (goOn nx hx)
  unfold u_slices_IndexFunc_Simpl_Item_impl_Item__impl_itemIndex_1_3
  exact nat_cond (nat_bind fun _ => nat_bind fun _ => nat_cond (rfl) (rfl)) (rfl)
noncomputable def w_slices_IndexFunc_Simpl_Item_impl_Item__impl_itemIndex_1_3 : s_slices_IndexFunc_Simpl_Item_impl_Item__impl_itemIndex_1_3.T → Option (exT x_slices_IndexFunc_Simpl_Item_impl_Item__impl_itemIndex_1_3) := wOf @t_slices_IndexFunc_Simpl_Item_impl_Item__impl_itemIndex_1_3
theorem wq_slices_IndexFunc_Simpl_Item_impl_Item__impl_itemIndex_1_3 (x0 : List (ByteArray × (Bool × (((Int × (Int × Int)) × (Int × (Int × Int))) × (Int × (Int × (Int × Int))))))) (x7 : Int) (x8 : Int) (b0 : ByteArray) : w_slices_IndexFunc_Simpl_Item_impl_Item__impl_itemIndex_1_3 (m_slices_IndexFunc_Simpl_Item_impl_Item__impl_itemIndex_1_3 x0 x7 x8 b0) = u_slices_IndexFunc_Simpl_Item_impl_Item__impl_itemIndex_1_3 w_slices_IndexFunc_Simpl_Item_impl_Item__impl_itemIndex_1_3 (hIn x_slices_IndexFunc_Simpl_Item_impl_Item__impl_itemIndex_1_3 some) x0 x7 x8 b0 := wOf_eq nat_slices_IndexFunc_Simpl_Item_impl_Item__impl_itemIndex_1_3 _
def lh_slices_IndexFunc_Simpl_Item_impl_Item__impl_itemIndex_1_3 : LoopHint := ⟨[0, 1, 7, 8], [19], [4], []⟩
noncomputable def h_slices_IndexFunc_Simpl_Item_impl_Item__impl_itemIndex_1 : Hints Rv := ⟨fun k => match k with | 3 => lh_slices_IndexFunc_Simpl_Item_impl_Item__impl_itemIndex_1_3 | _ => ⟨[], [], [], []⟩, fun k => match k with | 3 => some (loopX s_slices_IndexFunc_Simpl_Item_impl_Item__impl_itemIndex_1_3 x_slices_IndexFunc_Simpl_Item_impl_Item__impl_itemIndex_1_3 w_slices_IndexFunc_Simpl_Item_impl_Item__impl_itemIndex_1_3) | _ => none⟩
theorem st_slices_IndexFunc_Simpl_Item_impl_Item__impl_itemIndex_1_3 (n : Nat) (z : s_slices_IndexFunc_Simpl_Item_impl_Item__impl_itemIndex_1_3.T) (k : Ex → Live → Option Rv) : loopN ⟨19, 20⟩ lh_slices_IndexFunc_Simpl_Item_impl_Item__impl_itemIndex_1_3 (den (tab C0 T_slices_IndexFunc_Simpl_Item_impl_Item__impl_itemIndex_1) ⟨19, 20⟩ h_slices_IndexFunc_Simpl_Item_impl_Item__impl_itemIndex_1 1 (loopOf Tryd.f80 2)) (n + 1) (s_slices_IndexFunc_Simpl_Item_impl_Item__impl_itemIndex_1_3.enc z) k =
    t_slices_IndexFunc_Simpl_Item_impl_Item__impl_itemIndex_1_3 (fun y => loopN ⟨19, 20⟩ lh_slices_IndexFunc_Simpl_Item_impl_Item__impl_itemIndex_1_3 (den (tab C0 T_slices_IndexFunc_Simpl_Item_impl_Item__impl_itemIndex_1) ⟨19, 20⟩ h_slices_IndexFunc_Simpl_Item_impl_Item__impl_itemIndex_1 1 (loopOf Tryd.f80 2)) n (s_slices_IndexFunc_Simpl_Item_impl_Item__impl_itemIndex_1_3.enc y) k) (hK k x_slices_IndexFunc_Simpl_Item_impl_Item__impl_itemIndex_1_3) z := by kernel_rfl
theorem hs_slices_IndexFunc_Simpl_Item_impl_Item__impl_itemIndex_1 : HintsOk (tab C0 T_slices_IndexFunc_Simpl_Item_impl_Item__impl_itemIndex_1) ⟨19, 20⟩ h_slices_IndexFunc_Simpl_Item_impl_Item__impl_itemIndex_1 1 (loops (codeOf Tryd.f80)) := by
  have hl : loops (codeOf Tryd.f80) = [loopOf Tryd.f80 2] := by kernel_rfl
  rw [hl]
  exact HintsOk.cons (n := 3) (lh := lh_slices_IndexFunc_Simpl_Item_impl_Item__impl_itemIndex_1_3) (S := loopX s_slices_IndexFunc_Simpl_Item_impl_Item__impl_itemIndex_1_3 x_slices_IndexFunc_Simpl_Item_impl_Item__impl_itemIndex_1_3 w_slices_IndexFunc_Simpl_Item_impl_Item__impl_itemIndex_1_3) (by kernel_rfl) rfl rfl (loopX_ok nat_slices_IndexFunc_Simpl_Item_impl_Item__impl_itemIndex_1_3 st_slices_IndexFunc_Simpl_Item_impl_Item__impl_itemIndex_1_3)
    (HintsOk.nil)
noncomputable def t_slices_IndexFunc_Simpl_Item_impl_Item__impl_itemIndex_1 {R : Type} (kx : Int → Option R) (a0 : (List (ByteArray × (Bool × (((Int × (Int × Int)) × (Int × (Int × Int))) × (Int × (Int × (Int × Int)))))))) (a1_0 : ByteArray) : Option R :=
  Option.bind (w_slices_IndexFunc_Simpl_Item_impl_Item__impl_itemIndex_1_3 (m_slices_IndexFunc_Simpl_Item_impl_Item__impl_itemIndex_1_3 a0 (((List.length a0) : Nat) : Int) (0 : Int) a1_0)) (exC x_slices_IndexFunc_Simpl_Item_impl_Item__impl_itemIndex_1_3
  (fun e150 =>
   kx (e150.1.1.1 : Int), fun _ =>
   kx (-(1 : Int)), ()))
noncomputable def g_slices_IndexFunc_Simpl_Item_impl_Item__impl_itemIndex_1 (a0 : (List (ByteArray × (Bool × (((Int × (Int × Int)) × (Int × (Int × Int))) × (Int × (Int × (Int × Int)))))))) (a1_0 : ByteArray) : Option (Int) := t_slices_IndexFunc_Simpl_Item_impl_Item__impl_itemIndex_1 some a0 a1_0
theorem nat_slices_IndexFunc_Simpl_Item_impl_Item__impl_itemIndex_1 {R : Type} (kx : Int → Option R) (a0 : (List (ByteArray × (Bool × (((Int × (Int × Int)) × (Int × (Int × Int))) × (Int × (Int × (Int × Int)))))))) (a1_0 : ByteArray) : t_slices_IndexFunc_Simpl_Item_impl_Item__impl_itemIndex_1 kx a0 a1_0 = (g_slices_IndexFunc_Simpl_Item_impl_Item__impl_itemIndex_1 a0 a1_0).bind kx := by
  unfold g_slices_IndexFunc_Simpl_Item_impl_Item__impl_itemIndex_1 t_slices_IndexFunc_Simpl_Item_impl_Item__impl_itemIndex_1
  exact nat_exC ⟨fun _ => rfl, fun _ => rfl, trivial⟩
abbrev as_slices_IndexFunc_Simpl_Item_impl_Item__impl_itemIndex_1 : List AX := [.val false (.slice (.pair .str (.pair .bool (.pair (.pair (.pair (.int .i64) (.pair (.int .i64) (.int .i64))) (.pair (.int .i64) (.pair (.int .i64) (.int .i64)))) (.pair (.int .i64) (.pair (.int .i64) (.pair (.int .i64) (.int .i64)))))))), .clo 81 [.str]]
abbrev en_slices_IndexFunc_Simpl_Item_impl_Item__impl_itemIndex_1 : Int → AV × List CV := fun b => (.one ⟨false, [(.v (.int .i64 b))]⟩, [])
noncomputable abbrev k_slices_IndexFunc_Simpl_Item_impl_Item__impl_itemIndex_1 : Contract := .fx as_slices_IndexFunc_Simpl_Item_impl_Item__impl_itemIndex_1 (Int) (fun z => g_slices_IndexFunc_Simpl_Item_impl_Item__impl_itemIndex_1 z.1 z.2.1.1) en_slices_IndexFunc_Simpl_Item_impl_Item__impl_itemIndex_1
theorem r_slices_IndexFunc_Simpl_Item_impl_Item__impl_itemIndex_1 (z : argsX as_slices_IndexFunc_Simpl_Item_impl_Item__impl_itemIndex_1) : runF (tab C0 T_slices_IndexFunc_Simpl_Item_impl_Item__impl_itemIndex_1) h_slices_IndexFunc_Simpl_Item_impl_Item__impl_itemIndex_1 1 Tryd.f80 (lentOf as_slices_IndexFunc_Simpl_Item_impl_Item__impl_itemIndex_1) (xBoxes as_slices_IndexFunc_Simpl_Item_impl_Item__impl_itemIndex_1 z) (xVals as_slices_IndexFunc_Simpl_Item_impl_Item__impl_itemIndex_1 0 z) K2 = t_slices_IndexFunc_Simpl_Item_impl_Item__impl_itemIndex_1 (fun b => some (en_slices_IndexFunc_Simpl_Item_impl_Item__impl_itemIndex_1 b)) z.1 z.2.1.1 := by kernel_rfl
theorem so_slices_IndexFunc_Simpl_Item_impl_Item__impl_itemIndex_1 : Sound C0 80 k_slices_IndexFunc_Simpl_Item_impl_Item__impl_itemIndex_1 :=
  Sound.fx a_slices_IndexFunc_Simpl_Item_impl_Item__impl_itemIndex_1 mixed Tryd.func80 (by kernel_rfl) (by kernel_rfl) h_slices_IndexFunc_Simpl_Item_impl_Item__impl_itemIndex_1 1 hs_slices_IndexFunc_Simpl_Item_impl_Item__impl_itemIndex_1 (fun z => (r_slices_IndexFunc_Simpl_Item_impl_Item__impl_itemIndex_1 z).trans (nat_slices_IndexFunc_Simpl_Item_impl_Item__impl_itemIndex_1 _ z.1 z.2.1.1))

/-! ### F41 impl.itemIndex -/
noncomputable def T_impl_itemIndex : List (FuncId × Contract) := [(80, k_slices_IndexFunc_Simpl_Item_impl_Item__impl_itemIndex_1)]
theorem a_impl_itemIndex : AllSound C0 T_impl_itemIndex := .cons so_slices_IndexFunc_Simpl_Item_impl_Item__impl_itemIndex_1 (.nil)
noncomputable def t_impl_itemIndex {R : Type} (kx : Int → Option R) (a0 : (List (ByteArray × (Bool × (((Int × (Int × Int)) × (Int × (Int × Int))) × (Int × (Int × (Int × Int)))))))) (a1 : ByteArray) : Option R :=
  Option.bind (g_slices_IndexFunc_Simpl_Item_impl_Item__impl_itemIndex_1 a0 a1) fun y153 =>
  kx y153
noncomputable def g_impl_itemIndex (a0 : (List (ByteArray × (Bool × (((Int × (Int × Int)) × (Int × (Int × Int))) × (Int × (Int × (Int × Int)))))))) (a1 : ByteArray) : Option (Int) := t_impl_itemIndex some a0 a1
theorem nat_impl_itemIndex {R : Type} (kx : Int → Option R) (a0 : (List (ByteArray × (Bool × (((Int × (Int × Int)) × (Int × (Int × Int))) × (Int × (Int × (Int × Int)))))))) (a1 : ByteArray) : t_impl_itemIndex kx a0 a1 = (g_impl_itemIndex a0 a1).bind kx := by
  unfold g_impl_itemIndex t_impl_itemIndex
  exact nat_bind fun _ => rfl
abbrev as_impl_itemIndex : List AX := [.val false (.slice (.pair .str (.pair .bool (.pair (.pair (.pair (.int .i64) (.pair (.int .i64) (.int .i64))) (.pair (.int .i64) (.pair (.int .i64) (.int .i64)))) (.pair (.int .i64) (.pair (.int .i64) (.pair (.int .i64) (.int .i64)))))))), .val false .str]
abbrev en_impl_itemIndex : Int → AV × List CV := fun b => (.one ⟨false, [(.v (.int .i64 b))]⟩, [])
noncomputable abbrev k_impl_itemIndex : Contract := .fx as_impl_itemIndex (Int) (fun z => g_impl_itemIndex z.1 z.2.1) en_impl_itemIndex
theorem r_impl_itemIndex (z : argsX as_impl_itemIndex) : runF (tab C0 T_impl_itemIndex) noHints 1 Tryd.f41 (lentOf as_impl_itemIndex) (xBoxes as_impl_itemIndex z) (xVals as_impl_itemIndex 0 z) K2 = t_impl_itemIndex (fun b => some (en_impl_itemIndex b)) z.1 z.2.1 := by kernel_rfl
theorem so_impl_itemIndex : Sound C0 41 k_impl_itemIndex :=
  Sound.fx a_impl_itemIndex mixed Tryd.func41 (by kernel_rfl) (by kernel_rfl) noHints 1 noHints_ok (fun z => (r_impl_itemIndex z).trans (nat_impl_itemIndex _ z.1 z.2.1))

/-! ### F11 impl.ValidItems -/
noncomputable def T_impl_ValidItems : List (FuncId × Contract) := [(40, k_impl_isItem), (41, k_impl_itemIndex)]
theorem a_impl_ValidItems : AllSound C0 T_impl_ValidItems := .cons so_impl_isItem (.cons so_impl_itemIndex (.nil))
abbrev s_impl_ValidItems_3 : LS := ⟨[(false, [(.sl (.pair .str (.pair .bool (.pair (.pair (.pair (.int .i64) (.pair (.int .i64) (.int .i64))) (.pair (.int .i64) (.pair (.int .i64) (.int .i64)))) (.pair (.int .i64) (.pair (.int .i64) (.pair (.int .i64) (.int .i64))))))))]), (false, [(.sl (.pair .str (.pair .bool (.pair (.pair (.pair (.int .i64) (.pair (.int .i64) (.int .i64))) (.pair (.int .i64) (.pair (.int .i64) (.int .i64)))) (.pair (.int .i64) (.pair (.int .i64) (.pair (.int .i64) (.int .i64))))))))]), (false, [(.int .i64)]), (false, [(.int .i64)])], [], []⟩
abbrev e_impl_ValidItems_3_0 : LS := ⟨[(false, [(.sl (.pair .str (.pair .bool (.pair (.pair (.pair (.int .i64) (.pair (.int .i64) (.int .i64))) (.pair (.int .i64) (.pair (.int .i64) (.int .i64)))) (.pair (.int .i64) (.pair (.int .i64) (.pair (.int .i64) (.int .i64))))))))]), (false, [.bool])], [], []⟩
abbrev d_impl_ValidItems_3_0 (v0 : List (ByteArray × (Bool × (((Int × (Int × Int)) × (Int × (Int × Int))) × (Int × (Int × (Int × Int))))))) (v1 : Bool) : e_impl_ValidItems_3_0.T := (((v0, ()), (v1, ()), ()), (), ())
abbrev e_impl_ValidItems_3_1 : LS := ⟨[(false, [(.sl (.pair .str (.pair .bool (.pair (.pair (.pair (.int .i64) (.pair (.int .i64) (.int .i64))) (.pair (.int .i64) (.pair (.int .i64) (.int .i64)))) (.pair (.int .i64) (.pair (.int .i64) (.pair (.int .i64) (.int .i64))))))))]), (false, [.undef])], [], []⟩
abbrev d_impl_ValidItems_3_1 (v0 : List (ByteArray × (Bool × (((Int × (Int × Int)) × (Int × (Int × Int))) × (Int × (Int × (Int × Int))))))) : e_impl_ValidItems_3_1.T := (((v0, ()), ((), ()), ()), (), ())
abbrev x_impl_ValidItems_3 : List (Ex × LS) := [(.ret, e_impl_ValidItems_3_0), (.exit 0, e_impl_ValidItems_3_1)]
abbrev m_impl_ValidItems_3 (x0 : List (ByteArray × (Bool × (((Int × (Int × Int)) × (Int × (Int × Int))) × (Int × (Int × (Int × Int))))))) (x5 : List (ByteArray × (Bool × (((Int × (Int × Int)) × (Int × (Int × Int))) × (Int × (Int × (Int × Int))))))) (x6 : Int) (x7 : Int) : s_impl_ValidItems_3.T := (((x0, ()), (x5, ()), (x6, ()), (x7, ()), ()), (), ())
noncomputable def u_impl_ValidItems_3 {R : Type} (nx : s_impl_ValidItems_3.T → Option R) (hx : exH R x_impl_ValidItems_3) (x0 : List (ByteArray × (Bool × (((Int × (Int × Int)) × (Int × (Int × Int))) × (Int × (Int × (Int × Int))))))) (x5 : List (ByteArray × (Bool × (((Int × (Int × Int)) × (Int × (Int × Int))) × (Int × (Int × (Int × Int))))))) (x6 : Int) (x7 : Int) : Option R :=
  cond (decide (x7 < x6))
  (Option.bind (idx x5 x7) fun y113 =>
   Option.bind (g_impl_isItem y113) fun y137 =>
   cond (!y137)
   (hx.1 (d_impl_ValidItems_3_0 x0 Bool.false))
   (cond (decide ((0 : Int) ≤ x7))
    (cond (decide (x7 ≤ (((List.length x0) : Nat) : Int)))
     (Option.bind (g_impl_itemIndex (List.drop 0 (List.take (Int.toNat x7) x0)) y113.1) fun y154 =>
      cond (decide (y154 ≥ (0 : Int)))
      (hx.1 (d_impl_ValidItems_3_0 x0 Bool.false))
      (nx (m_impl_ValidItems_3 x0 x5 x6 (IntKind.wrap IntKind.i64 (x7 + (1 : Int))))))
     (none))
    (none)))
  (hx.2.1 (d_impl_ValidItems_3_1 x0))
noncomputable def t_impl_ValidItems_3 {R : Type} (nx : s_impl_ValidItems_3.T → Option R) (hx : exH R x_impl_ValidItems_3) (z : s_impl_ValidItems_3.T) : Option R := u_impl_ValidItems_3 nx hx z.1.1.1 z.1.2.1.1 z.1.2.2.1.1 z.1.2.2.2.1.1
theorem nat_impl_ValidItems_3 : Natural @t_impl_ValidItems_3 := fun R nx hx z => by
  show u_impl_ValidItems_3 nx hx z.1.1.1 z.1.2.1.1 z.1.2.2.1.1 z.1.2.2.2.1.1 = (u_impl_ValidItems_3 (fun y => some (.inl y)) (hIn x_impl_ValidItems_3 fun x => some (.inr x)) z.1.1.1 z.1.2.1.1 z.1.2.2.1.1 z.1.2.2.2.1.1).bind (goOn nx hx)
  unfold u_impl_ValidItems_3
  exact nat_cond (nat_bind fun _ => nat_bind fun _ => nat_cond (rfl) (nat_cond (nat_cond (nat_bind fun _ => nat_cond (rfl) (rfl)) (rfl)) (rfl))) (rfl)
noncomputable def w_impl_ValidItems_3 : s_impl_ValidItems_3.T → Option (exT x_impl_ValidItems_3) := wOf @t_impl_ValidItems_3
theorem wq_impl_ValidItems_3 (x0 : List (ByteArray × (Bool × (((Int × (Int × Int)) × (Int × (Int × Int))) × (Int × (Int × (Int × Int))))))) (x5 : List (ByteArray × (Bool × (((Int × (Int × Int)) × (Int × (Int × Int))) × (Int × (Int × (Int × Int))))))) (x6 : Int) (x7 : Int) : w_impl_ValidItems_3 (m_impl_ValidItems_3 x0 x5 x6 x7) = u_impl_ValidItems_3 w_impl_ValidItems_3 (hIn x_impl_ValidItems_3 some) x0 x5 x6 x7 := wOf_eq nat_impl_ValidItems_3 _
def lh_impl_ValidItems_3 : LoopHint := ⟨[0, 5, 6, 7], [], [0, 2], []⟩
noncomputable def h_impl_ValidItems : Hints Rv := ⟨fun k => match k with | 3 => lh_impl_ValidItems_3 | _ => ⟨[], [], [], []⟩, fun k => match k with | 3 => some (loopX s_impl_ValidItems_3 x_impl_ValidItems_3 w_impl_ValidItems_3) | _ => none⟩
theorem st_impl_ValidItems_3 (n : Nat) (z : s_impl_ValidItems_3.T) (k : Ex → Live → Option Rv) : loopN ⟨28, 28⟩ lh_impl_ValidItems_3 (den (tab C0 T_impl_ValidItems) ⟨28, 28⟩ h_impl_ValidItems 1 (loopOf Tryd.f11 2)) (n + 1) (s_impl_ValidItems_3.enc z) k =
    t_impl_ValidItems_3 (fun y => loopN ⟨28, 28⟩ lh_impl_ValidItems_3 (den (tab C0 T_impl_ValidItems) ⟨28, 28⟩ h_impl_ValidItems 1 (loopOf Tryd.f11 2)) n (s_impl_ValidItems_3.enc y) k) (hK k x_impl_ValidItems_3) z := by kernel_rfl
theorem hs_impl_ValidItems : HintsOk (tab C0 T_impl_ValidItems) ⟨28, 28⟩ h_impl_ValidItems 1 (loops (codeOf Tryd.f11)) := by
  have hl : loops (codeOf Tryd.f11) = [loopOf Tryd.f11 2] := by kernel_rfl
  rw [hl]
  exact HintsOk.cons (n := 3) (lh := lh_impl_ValidItems_3) (S := loopX s_impl_ValidItems_3 x_impl_ValidItems_3 w_impl_ValidItems_3) (by kernel_rfl) rfl rfl (loopX_ok nat_impl_ValidItems_3 st_impl_ValidItems_3)
    (HintsOk.nil)
noncomputable def t_impl_ValidItems {R : Type} (kx : Bool → Option R) (a0 : (List (ByteArray × (Bool × (((Int × (Int × Int)) × (Int × (Int × Int))) × (Int × (Int × (Int × Int)))))))) : Option R :=
  Option.bind (w_impl_ValidItems_3 (m_impl_ValidItems_3 a0 a0 (((List.length a0) : Nat) : Int) (0 : Int))) (exC x_impl_ValidItems_3
  (fun e155 =>
   kx (e155.1.2.1.1 : Bool), fun e158 =>
   kx (decide ((((List.length (e158.1.1.1 : List (ByteArray × (Bool × (((Int × (Int × Int)) × (Int × (Int × Int))) × (Int × (Int × (Int × Int)))))))) : Nat) : Int) ≤ (40 : Int))), ()))
noncomputable def g_impl_ValidItems (a0 : (List (ByteArray × (Bool × (((Int × (Int × Int)) × (Int × (Int × Int))) × (Int × (Int × (Int × Int)))))))) : Option (Bool) := t_impl_ValidItems some a0
theorem nat_impl_ValidItems {R : Type} (kx : Bool → Option R) (a0 : (List (ByteArray × (Bool × (((Int × (Int × Int)) × (Int × (Int × Int))) × (Int × (Int × (Int × Int)))))))) : t_impl_ValidItems kx a0 = (g_impl_ValidItems a0).bind kx := by
  unfold g_impl_ValidItems t_impl_ValidItems
  exact nat_exC ⟨fun _ => rfl, fun _ => rfl, trivial⟩
abbrev as_impl_ValidItems : List AX := [.val false (.slice (.pair .str (.pair .bool (.pair (.pair (.pair (.int .i64) (.pair (.int .i64) (.int .i64))) (.pair (.int .i64) (.pair (.int .i64) (.int .i64)))) (.pair (.int .i64) (.pair (.int .i64) (.pair (.int .i64) (.int .i64))))))))]
abbrev en_impl_ValidItems : Bool → AV × List CV := fun b => (.one ⟨false, [(.v (.bool b))]⟩, [])
noncomputable abbrev k_impl_ValidItems : Contract := .fx as_impl_ValidItems (Bool) (fun z => g_impl_ValidItems z.1) en_impl_ValidItems
theorem r_impl_ValidItems (z : argsX as_impl_ValidItems) : runF (tab C0 T_impl_ValidItems) h_impl_ValidItems 1 Tryd.f11 (lentOf as_impl_ValidItems) (xBoxes as_impl_ValidItems z) (xVals as_impl_ValidItems 0 z) K2 = t_impl_ValidItems (fun b => some (en_impl_ValidItems b)) z.1 := by kernel_rfl
theorem so_impl_ValidItems : Sound C0 11 k_impl_ValidItems :=
  Sound.fx a_impl_ValidItems mixed Tryd.func11 (by kernel_rfl) (by kernel_rfl) h_impl_ValidItems 1 hs_impl_ValidItems (fun z => (r_impl_ValidItems z).trans (nat_impl_ValidItems _ z.1))

/-! ### F19 impl.FindItem -/
noncomputable def T_impl_FindItem : List (FuncId × Contract) := [(11, k_impl_ValidItems), (41, k_impl_itemIndex)]
theorem a_impl_FindItem : AllSound C0 T_impl_FindItem := .cons so_impl_ValidItems (.cons so_impl_itemIndex (.nil))
noncomputable def t_impl_FindItem {R : Type} (kx : (ByteArray × (Bool × (((Int × (Int × Int)) × (Int × (Int × Int))) × (Int × (Int × (Int × Int)))))) × Int → Option R) (a0 : (List (ByteArray × (Bool × (((Int × (Int × Int)) × (Int × (Int × Int))) × (Int × (Int × (Int × Int)))))))) (a1 : ByteArray) : Option R :=
  Option.bind (g_impl_ValidItems a0) fun y160 =>
  cond (!y160)
  (kx (((ByteArray.mk (Array.mk [])), (Bool.false, ((((0 : Int), ((0 : Int), (0 : Int))), ((0 : Int), ((0 : Int), (0 : Int)))), ((0 : Int), ((0 : Int), ((0 : Int), (0 : Int))))))), (1 : Int)))
  (Option.bind (g_impl_itemIndex a0 a1) fun y161 =>
   cond (decide (y161 < (0 : Int)))
   (kx (((ByteArray.mk (Array.mk [])), (Bool.false, ((((0 : Int), ((0 : Int), (0 : Int))), ((0 : Int), ((0 : Int), (0 : Int)))), ((0 : Int), ((0 : Int), ((0 : Int), (0 : Int))))))), (3 : Int)))
   (Option.bind (idx a0 y161) fun y162 =>
    kx (y162, (0 : Int))))
noncomputable def g_impl_FindItem (a0 : (List (ByteArray × (Bool × (((Int × (Int × Int)) × (Int × (Int × Int))) × (Int × (Int × (Int × Int)))))))) (a1 : ByteArray) : Option ((ByteArray × (Bool × (((Int × (Int × Int)) × (Int × (Int × Int))) × (Int × (Int × (Int × Int)))))) × Int) := t_impl_FindItem some a0 a1
theorem nat_impl_FindItem {R : Type} (kx : (ByteArray × (Bool × (((Int × (Int × Int)) × (Int × (Int × Int))) × (Int × (Int × (Int × Int)))))) × Int → Option R) (a0 : (List (ByteArray × (Bool × (((Int × (Int × Int)) × (Int × (Int × Int))) × (Int × (Int × (Int × Int)))))))) (a1 : ByteArray) : t_impl_FindItem kx a0 a1 = (g_impl_FindItem a0 a1).bind kx := by
  unfold g_impl_FindItem t_impl_FindItem
  exact nat_bind fun _ => nat_cond (rfl) (nat_bind fun _ => nat_cond (rfl) (nat_bind fun _ => rfl))
abbrev as_impl_FindItem : List AX := [.val false (.slice (.pair .str (.pair .bool (.pair (.pair (.pair (.int .i64) (.pair (.int .i64) (.int .i64))) (.pair (.int .i64) (.pair (.int .i64) (.int .i64)))) (.pair (.int .i64) (.pair (.int .i64) (.pair (.int .i64) (.int .i64)))))))), .val false .str]
abbrev en_impl_FindItem : (ByteArray × (Bool × (((Int × (Int × Int)) × (Int × (Int × Int))) × (Int × (Int × (Int × Int)))))) × Int → AV × List CV := fun b => (.tup [⟨true, [(.v (.string b.1.1)), (.v (.bool b.1.2.1)), (.v (.int .i64 b.1.2.2.1.1.1)), (.v (.int .i64 b.1.2.2.1.1.2.1)), (.v (.int .i64 b.1.2.2.1.1.2.2)), (.v (.int .i64 b.1.2.2.1.2.1)), (.v (.int .i64 b.1.2.2.1.2.2.1)), (.v (.int .i64 b.1.2.2.1.2.2.2)), (.v (.int .i64 b.1.2.2.2.1)), (.v (.int .i64 b.1.2.2.2.2.1)), (.v (.int .i64 b.1.2.2.2.2.2.1)), (.v (.int .i64 b.1.2.2.2.2.2.2))]⟩, ⟨false, [(.v (.int .i64 b.2))]⟩], [])
noncomputable abbrev k_impl_FindItem : Contract := .fx as_impl_FindItem ((ByteArray × (Bool × (((Int × (Int × Int)) × (Int × (Int × Int))) × (Int × (Int × (Int × Int)))))) × Int) (fun z => g_impl_FindItem z.1 z.2.1) en_impl_FindItem
theorem r_impl_FindItem (z : argsX as_impl_FindItem) : runF (tab C0 T_impl_FindItem) noHints 1 Tryd.f19 (lentOf as_impl_FindItem) (xBoxes as_impl_FindItem z) (xVals as_impl_FindItem 0 z) K2 = t_impl_FindItem (fun b => some (en_impl_FindItem b)) z.1 z.2.1 := by kernel_rfl
theorem so_impl_FindItem : Sound C0 19 k_impl_FindItem :=
  Sound.fx a_impl_FindItem mixed Tryd.func19 (by kernel_rfl) (by kernel_rfl) noHints 1 noHints_ok (fun z => (r_impl_FindItem z).trans (nat_impl_FindItem _ z.1 z.2.1))

/-! ### F93 laws.eqNum -/
noncomputable def T_laws_eqNum : List (FuncId × Contract) := []
theorem a_laws_eqNum : AllSound C0 T_laws_eqNum := .nil
noncomputable def t_laws_eqNum {R : Type} (kx : Bool → Option R) (a0 : (Int × (Int × Int))) (a1 : (Int × (Int × Int))) : Option R :=
  cond (a0.1 != a1.1)
  (kx Bool.false)
  (cond (a0.2.1 != a1.2.1)
   (kx Bool.false)
   (cond (a0.2.2 != a1.2.2)
    (kx Bool.false)
    (kx Bool.true)))
noncomputable def g_laws_eqNum (a0 : (Int × (Int × Int))) (a1 : (Int × (Int × Int))) : Option (Bool) := t_laws_eqNum some a0 a1
theorem nat_laws_eqNum {R : Type} (kx : Bool → Option R) (a0 : (Int × (Int × Int))) (a1 : (Int × (Int × Int))) : t_laws_eqNum kx a0 a1 = (g_laws_eqNum a0 a1).bind kx := by
  unfold g_laws_eqNum t_laws_eqNum
  exact nat_cond (rfl) (nat_cond (rfl) (nat_cond (rfl) (rfl)))
abbrev as_laws_eqNum : List AX := [.val true (.pair (.int .i64) (.pair (.int .i64) (.int .i64))), .val true (.pair (.int .i64) (.pair (.int .i64) (.int .i64)))]
abbrev en_laws_eqNum : Bool → AV × List CV := fun b => (.one ⟨false, [(.v (.bool b))]⟩, [])
noncomputable abbrev k_laws_eqNum : Contract := .fx as_laws_eqNum (Bool) (fun z => g_laws_eqNum z.1 z.2.1) en_laws_eqNum
theorem r_laws_eqNum (z : argsX as_laws_eqNum) : runF (tab C0 T_laws_eqNum) noHints 1 Tryd.f93 (lentOf as_laws_eqNum) (xBoxes as_laws_eqNum z) (xVals as_laws_eqNum 0 z) K2 = t_laws_eqNum (fun b => some (en_laws_eqNum b)) z.1 z.2.1 := by kernel_rfl
theorem so_laws_eqNum : Sound C0 93 k_laws_eqNum :=
  Sound.fx a_laws_eqNum mixed Tryd.func93 (by kernel_rfl) (by kernel_rfl) noHints 1 noHints_ok (fun z => (r_laws_eqNum z).trans (nat_laws_eqNum _ z.1 z.2.1))

/-! ### F54 laws.eqPoint -/
noncomputable def T_laws_eqPoint : List (FuncId × Contract) := [(93, k_laws_eqNum)]
theorem a_laws_eqPoint : AllSound C0 T_laws_eqPoint := .cons so_laws_eqNum (.nil)
noncomputable def t_laws_eqPoint {R : Type} (kx : Bool → Option R) (a0 : ((Int × (Int × Int)) × (Int × (Int × Int)))) (a1 : ((Int × (Int × Int)) × (Int × (Int × Int)))) : Option R :=
  Option.bind (g_laws_eqNum a0.1 a1.1) fun y170 =>
  cond (!y170)
  (kx Bool.false)
  (Option.bind (g_laws_eqNum a0.2 a1.2) fun y171 =>
   cond (!y171)
   (kx Bool.false)
   (kx Bool.true))
noncomputable def g_laws_eqPoint (a0 : ((Int × (Int × Int)) × (Int × (Int × Int)))) (a1 : ((Int × (Int × Int)) × (Int × (Int × Int)))) : Option (Bool) := t_laws_eqPoint some a0 a1
theorem nat_laws_eqPoint {R : Type} (kx : Bool → Option R) (a0 : ((Int × (Int × Int)) × (Int × (Int × Int)))) (a1 : ((Int × (Int × Int)) × (Int × (Int × Int)))) : t_laws_eqPoint kx a0 a1 = (g_laws_eqPoint a0 a1).bind kx := by
  unfold g_laws_eqPoint t_laws_eqPoint
  exact nat_bind fun _ => nat_cond (rfl) (nat_bind fun _ => nat_cond (rfl) (rfl))
abbrev as_laws_eqPoint : List AX := [.val true (.pair (.pair (.int .i64) (.pair (.int .i64) (.int .i64))) (.pair (.int .i64) (.pair (.int .i64) (.int .i64)))), .val true (.pair (.pair (.int .i64) (.pair (.int .i64) (.int .i64))) (.pair (.int .i64) (.pair (.int .i64) (.int .i64))))]
abbrev en_laws_eqPoint : Bool → AV × List CV := fun b => (.one ⟨false, [(.v (.bool b))]⟩, [])
noncomputable abbrev k_laws_eqPoint : Contract := .fx as_laws_eqPoint (Bool) (fun z => g_laws_eqPoint z.1 z.2.1) en_laws_eqPoint
theorem r_laws_eqPoint (z : argsX as_laws_eqPoint) : runF (tab C0 T_laws_eqPoint) noHints 1 Tryd.f54 (lentOf as_laws_eqPoint) (xBoxes as_laws_eqPoint z) (xVals as_laws_eqPoint 0 z) K2 = t_laws_eqPoint (fun b => some (en_laws_eqPoint b)) z.1 z.2.1 := by kernel_rfl
theorem so_laws_eqPoint : Sound C0 54 k_laws_eqPoint :=
  Sound.fx a_laws_eqPoint mixed Tryd.func54 (by kernel_rfl) (by kernel_rfl) noHints 1 noHints_ok (fun z => (r_laws_eqPoint z).trans (nat_laws_eqPoint _ z.1 z.2.1))

/-! ### F55 laws.eqLine -/
noncomputable def T_laws_eqLine : List (FuncId × Contract) := [(93, k_laws_eqNum)]
theorem a_laws_eqLine : AllSound C0 T_laws_eqLine := .cons so_laws_eqNum (.nil)
noncomputable def t_laws_eqLine {R : Type} (kx : Bool → Option R) (a0 : (Int × (Int × (Int × Int)))) (a1 : (Int × (Int × (Int × Int)))) : Option R :=
  cond (a0.1 != a1.1)
  (kx Bool.false)
  (Option.bind (g_laws_eqNum a0.2 a1.2) fun y175 =>
   cond (!y175)
   (kx Bool.false)
   (kx Bool.true))
noncomputable def g_laws_eqLine (a0 : (Int × (Int × (Int × Int)))) (a1 : (Int × (Int × (Int × Int)))) : Option (Bool) := t_laws_eqLine some a0 a1
theorem nat_laws_eqLine {R : Type} (kx : Bool → Option R) (a0 : (Int × (Int × (Int × Int)))) (a1 : (Int × (Int × (Int × Int)))) : t_laws_eqLine kx a0 a1 = (g_laws_eqLine a0 a1).bind kx := by
  unfold g_laws_eqLine t_laws_eqLine
  exact nat_cond (rfl) (nat_bind fun _ => nat_cond (rfl) (rfl))
abbrev as_laws_eqLine : List AX := [.val true (.pair (.int .i64) (.pair (.int .i64) (.pair (.int .i64) (.int .i64)))), .val true (.pair (.int .i64) (.pair (.int .i64) (.pair (.int .i64) (.int .i64))))]
abbrev en_laws_eqLine : Bool → AV × List CV := fun b => (.one ⟨false, [(.v (.bool b))]⟩, [])
noncomputable abbrev k_laws_eqLine : Contract := .fx as_laws_eqLine (Bool) (fun z => g_laws_eqLine z.1 z.2.1) en_laws_eqLine
theorem r_laws_eqLine (z : argsX as_laws_eqLine) : runF (tab C0 T_laws_eqLine) noHints 1 Tryd.f55 (lentOf as_laws_eqLine) (xBoxes as_laws_eqLine z) (xVals as_laws_eqLine 0 z) K2 = t_laws_eqLine (fun b => some (en_laws_eqLine b)) z.1 z.2.1 := by kernel_rfl
theorem so_laws_eqLine : Sound C0 55 k_laws_eqLine :=
  Sound.fx a_laws_eqLine mixed Tryd.func55 (by kernel_rfl) (by kernel_rfl) noHints 1 noHints_ok (fun z => (r_laws_eqLine z).trans (nat_laws_eqLine _ z.1 z.2.1))

/-! ### F20 laws.eqItem -/
noncomputable def T_laws_eqItem : List (FuncId × Contract) := [(54, k_laws_eqPoint), (55, k_laws_eqLine)]
theorem a_laws_eqItem : AllSound C0 T_laws_eqItem := .cons so_laws_eqPoint (.cons so_laws_eqLine (.nil))
noncomputable def t_laws_eqItem {R : Type} (kx : Bool → Option R) (a0 : (ByteArray × (Bool × (((Int × (Int × Int)) × (Int × (Int × Int))) × (Int × (Int × (Int × Int))))))) (a1 : (ByteArray × (Bool × (((Int × (Int × Int)) × (Int × (Int × Int))) × (Int × (Int × (Int × Int))))))) : Option R :=
  cond (!((ByteArray.toList a0.1) == (ByteArray.toList a1.1)))
  (kx Bool.false)
  (cond (!(a0.2.1 == a1.2.1))
   (kx Bool.false)
   (Option.bind (g_laws_eqPoint a0.2.2.1 a1.2.2.1) fun y172 =>
    cond (!y172)
    (kx Bool.false)
    (Option.bind (g_laws_eqLine a0.2.2.2 a1.2.2.2) fun y176 =>
     cond (!y176)
     (kx Bool.false)
     (kx Bool.true))))
noncomputable def g_laws_eqItem (a0 : (ByteArray × (Bool × (((Int × (Int × Int)) × (Int × (Int × Int))) × (Int × (Int × (Int × Int))))))) (a1 : (ByteArray × (Bool × (((Int × (Int × Int)) × (Int × (Int × Int))) × (Int × (Int × (Int × Int))))))) : Option (Bool) := t_laws_eqItem some a0 a1
theorem nat_laws_eqItem {R : Type} (kx : Bool → Option R) (a0 : (ByteArray × (Bool × (((Int × (Int × Int)) × (Int × (Int × Int))) × (Int × (Int × (Int × Int))))))) (a1 : (ByteArray × (Bool × (((Int × (Int × Int)) × (Int × (Int × Int))) × (Int × (Int × (Int × Int))))))) : t_laws_eqItem kx a0 a1 = (g_laws_eqItem a0 a1).bind kx := by
  unfold g_laws_eqItem t_laws_eqItem
  exact nat_cond (rfl) (nat_cond (rfl) (nat_bind fun _ => nat_cond (rfl) (nat_bind fun _ => nat_cond (rfl) (rfl))))
abbrev as_laws_eqItem : List AX := [.val true (.pair .str (.pair .bool (.pair (.pair (.pair (.int .i64) (.pair (.int .i64) (.int .i64))) (.pair (.int .i64) (.pair (.int .i64) (.int .i64)))) (.pair (.int .i64) (.pair (.int .i64) (.pair (.int .i64) (.int .i64))))))), .val true (.pair .str (.pair .bool (.pair (.pair (.pair (.int .i64) (.pair (.int .i64) (.int .i64))) (.pair (.int .i64) (.pair (.int .i64) (.int .i64)))) (.pair (.int .i64) (.pair (.int .i64) (.pair (.int .i64) (.int .i64)))))))]
abbrev en_laws_eqItem : Bool → AV × List CV := fun b => (.one ⟨false, [(.v (.bool b))]⟩, [])
noncomputable abbrev k_laws_eqItem : Contract := .fx as_laws_eqItem (Bool) (fun z => g_laws_eqItem z.1 z.2.1) en_laws_eqItem
theorem r_laws_eqItem (z : argsX as_laws_eqItem) : runF (tab C0 T_laws_eqItem) noHints 1 Tryd.f20 (lentOf as_laws_eqItem) (xBoxes as_laws_eqItem z) (xVals as_laws_eqItem 0 z) K2 = t_laws_eqItem (fun b => some (en_laws_eqItem b)) z.1 z.2.1 := by kernel_rfl
theorem so_laws_eqItem : Sound C0 20 k_laws_eqItem :=
  Sound.fx a_laws_eqItem mixed Tryd.func20 (by kernel_rfl) (by kernel_rfl) noHints 1 noHints_ok (fun z => (r_laws_eqItem z).trans (nat_laws_eqItem _ z.1 z.2.1))

/-! ### F12 laws.eqItemS -/
noncomputable def T_laws_eqItemS : List (FuncId × Contract) := [(20, k_laws_eqItem)]
theorem a_laws_eqItemS : AllSound C0 T_laws_eqItemS := .cons so_laws_eqItem (.nil)
abbrev s_laws_eqItemS_5 : LS := ⟨[(false, [(.sl (.pair .str (.pair .bool (.pair (.pair (.pair (.int .i64) (.pair (.int .i64) (.int .i64))) (.pair (.int .i64) (.pair (.int .i64) (.int .i64)))) (.pair (.int .i64) (.pair (.int .i64) (.pair (.int .i64) (.int .i64))))))))]), (false, [(.sl (.pair .str (.pair .bool (.pair (.pair (.pair (.int .i64) (.pair (.int .i64) (.int .i64))) (.pair (.int .i64) (.pair (.int .i64) (.int .i64)))) (.pair (.int .i64) (.pair (.int .i64) (.pair (.int .i64) (.int .i64))))))))]), (false, [(.int .i64)])], [], []⟩
abbrev e_laws_eqItemS_5_0 : LS := ⟨[(false, [.bool])], [], []⟩
abbrev d_laws_eqItemS_5_0 (v0 : Bool) : e_laws_eqItemS_5_0.T := (((v0, ()), ()), (), ())
abbrev e_laws_eqItemS_5_1 : LS := ⟨[(false, [.undef])], [], []⟩
abbrev d_laws_eqItemS_5_1 : e_laws_eqItemS_5_1.T := ((((), ()), ()), (), ())
abbrev x_laws_eqItemS_5 : List (Ex × LS) := [(.ret, e_laws_eqItemS_5_0), (.exit 0, e_laws_eqItemS_5_1)]
abbrev m_laws_eqItemS_5 (x0 : List (ByteArray × (Bool × (((Int × (Int × Int)) × (Int × (Int × Int))) × (Int × (Int × (Int × Int))))))) (x1 : List (ByteArray × (Bool × (((Int × (Int × Int)) × (Int × (Int × Int))) × (Int × (Int × (Int × Int))))))) (x5 : Int) : s_laws_eqItemS_5.T := (((x0, ()), (x1, ()), (x5, ()), ()), (), ())
noncomputable def u_laws_eqItemS_5 {R : Type} (nx : s_laws_eqItemS_5.T → Option R) (hx : exH R x_laws_eqItemS_5) (x0 : List (ByteArray × (Bool × (((Int × (Int × Int)) × (Int × (Int × Int))) × (Int × (Int × (Int × Int))))))) (x1 : List (ByteArray × (Bool × (((Int × (Int × Int)) × (Int × (Int × Int))) × (Int × (Int × (Int × Int))))))) (x5 : Int) : Option R :=
  cond (decide (x5 < (((List.length x0) : Nat) : Int)))
  (Option.bind (idx x0 x5) fun y184 =>
   Option.bind (idx x1 x5) fun y185 =>
   Option.bind (g_laws_eqItem y184 y185) fun y186 =>
   cond (!y186)
   (hx.1 (d_laws_eqItemS_5_0 Bool.false))
   (nx (m_laws_eqItemS_5 x0 x1 (IntKind.wrap IntKind.i64 (x5 + (1 : Int))))))
  (hx.2.1 (d_laws_eqItemS_5_1))
noncomputable def t_laws_eqItemS_5 {R : Type} (nx : s_laws_eqItemS_5.T → Option R) (hx : exH R x_laws_eqItemS_5) (z : s_laws_eqItemS_5.T) : Option R := u_laws_eqItemS_5 nx hx z.1.1.1 z.1.2.1.1 z.1.2.2.1.1
theorem nat_laws_eqItemS_5 : Natural @t_laws_eqItemS_5 := fun R nx hx z => by
  show u_laws_eqItemS_5 nx hx z.1.1.1 z.1.2.1.1 z.1.2.2.1.1 = (u_laws_eqItemS_5 (fun y => some (.inl y)) (hIn x_laws_eqItemS_5 fun x => some (.inr x)) z.1.1.1 z.1.2.1.1 z.1.2.2.1.1).bind (goOn nx hx)
  unfold u_laws_eqItemS_5
  exact nat_cond (nat_bind fun _ => nat_bind fun _ => nat_bind fun _ => nat_cond (rfl) (rfl)) (rfl)
noncomputable def w_laws_eqItemS_5 : s_laws_eqItemS_5.T → Option (exT x_laws_eqItemS_5) := wOf @t_laws_eqItemS_5
theorem wq_laws_eqItemS_5 (x0 : List (ByteArray × (Bool × (((Int × (Int × Int)) × (Int × (Int × Int))) × (Int × (Int × (Int × Int))))))) (x1 : List (ByteArray × (Bool × (((Int × (Int × Int)) × (Int × (Int × Int))) × (Int × (Int × (Int × Int))))))) (x5 : Int) : w_laws_eqItemS_5 (m_laws_eqItemS_5 x0 x1 x5) = u_laws_eqItemS_5 w_laws_eqItemS_5 (hIn x_laws_eqItemS_5 some) x0 x1 x5 := wOf_eq nat_laws_eqItemS_5 _
def lh_laws_eqItemS_5 : LoopHint := ⟨[0, 1, 5], [], [4], []⟩
noncomputable def h_laws_eqItemS : Hints Rv := ⟨fun k => match k with | 5 => lh_laws_eqItemS_5 | _ => ⟨[], [], [], []⟩, fun k => match k with | 5 => some (loopX s_laws_eqItemS_5 x_laws_eqItemS_5 w_laws_eqItemS_5) | _ => none⟩
theorem st_laws_eqItemS_5 (n : Nat) (z : s_laws_eqItemS_5.T) (k : Ex → Live → Option Rv) : loopN ⟨27, 27⟩ lh_laws_eqItemS_5 (den (tab C0 T_laws_eqItemS) ⟨27, 27⟩ h_laws_eqItemS 1 (loopOf Tryd.f12 4)) (n + 1) (s_laws_eqItemS_5.enc z) k =
    t_laws_eqItemS_5 (fun y => loopN ⟨27, 27⟩ lh_laws_eqItemS_5 (den (tab C0 T_laws_eqItemS) ⟨27, 27⟩ h_laws_eqItemS 1 (loopOf Tryd.f12 4)) n (s_laws_eqItemS_5.enc y) k) (hK k x_laws_eqItemS_5) z := by kernel_rfl
theorem hs_laws_eqItemS : HintsOk (tab C0 T_laws_eqItemS) ⟨27, 27⟩ h_laws_eqItemS 1 (loops (codeOf Tryd.f12)) := by
  have hl : loops (codeOf Tryd.f12) = [loopOf Tryd.f12 4] := by kernel_rfl
  rw [hl]
  exact HintsOk.cons (n := 5) (lh := lh_laws_eqItemS_5) (S := loopX s_laws_eqItemS_5 x_laws_eqItemS_5 w_laws_eqItemS_5) (by kernel_rfl) rfl rfl (loopX_ok nat_laws_eqItemS_5 st_laws_eqItemS_5)
    (HintsOk.nil)
noncomputable def t_laws_eqItemS {R : Type} (kx : Bool → Option R) (a0 : (List (ByteArray × (Bool × (((Int × (Int × Int)) × (Int × (Int × Int))) × (Int × (Int × (Int × Int)))))))) (a1 : (List (ByteArray × (Bool × (((Int × (Int × Int)) × (Int × (Int × Int))) × (Int × (Int × (Int × Int)))))))) : Option R :=
  cond ((((List.length a0) : Nat) : Int) != (((List.length a1) : Nat) : Int))
  (kx Bool.false)
  (Option.bind (w_laws_eqItemS_5 (m_laws_eqItemS_5 a0 a1 (0 : Int))) (exC x_laws_eqItemS_5
   (fun e187 =>
    kx (e187.1.1.1 : Bool), fun _ =>
    kx Bool.true, ())))
noncomputable def g_laws_eqItemS (a0 : (List (ByteArray × (Bool × (((Int × (Int × Int)) × (Int × (Int × Int))) × (Int × (Int × (Int × Int)))))))) (a1 : (List (ByteArray × (Bool × (((Int × (Int × Int)) × (Int × (Int × Int))) × (Int × (Int × (Int × Int)))))))) : Option (Bool) := t_laws_eqItemS some a0 a1
theorem nat_laws_eqItemS {R : Type} (kx : Bool → Option R) (a0 : (List (ByteArray × (Bool × (((Int × (Int × Int)) × (Int × (Int × Int))) × (Int × (Int × (Int × Int)))))))) (a1 : (List (ByteArray × (Bool × (((Int × (Int × Int)) × (Int × (Int × Int))) × (Int × (Int × (Int × Int)))))))) : t_laws_eqItemS kx a0 a1 = (g_laws_eqItemS a0 a1).bind kx := by
  unfold g_laws_eqItemS t_laws_eqItemS
  exact nat_cond (rfl) (nat_exC ⟨fun _ => rfl, fun _ => rfl, trivial⟩)
abbrev as_laws_eqItemS : List AX := [.val false (.slice (.pair .str (.pair .bool (.pair (.pair (.pair (.int .i64) (.pair (.int .i64) (.int .i64))) (.pair (.int .i64) (.pair (.int .i64) (.int .i64)))) (.pair (.int .i64) (.pair (.int .i64) (.pair (.int .i64) (.int .i64)))))))), .val false (.slice (.pair .str (.pair .bool (.pair (.pair (.pair (.int .i64) (.pair (.int .i64) (.int .i64))) (.pair (.int .i64) (.pair (.int .i64) (.int .i64)))) (.pair (.int .i64) (.pair (.int .i64) (.pair (.int .i64) (.int .i64))))))))]
abbrev en_laws_eqItemS : Bool → AV × List CV := fun b => (.one ⟨false, [(.v (.bool b))]⟩, [])
noncomputable abbrev k_laws_eqItemS : Contract := .fx as_laws_eqItemS (Bool) (fun z => g_laws_eqItemS z.1 z.2.1) en_laws_eqItemS
theorem r_laws_eqItemS (z : argsX as_laws_eqItemS) : runF (tab C0 T_laws_eqItemS) h_laws_eqItemS 1 Tryd.f12 (lentOf as_laws_eqItemS) (xBoxes as_laws_eqItemS z) (xVals as_laws_eqItemS 0 z) K2 = t_laws_eqItemS (fun b => some (en_laws_eqItemS b)) z.1 z.2.1 := by kernel_rfl
theorem so_laws_eqItemS : Sound C0 12 k_laws_eqItemS :=
  Sound.fx a_laws_eqItemS mixed Tryd.func12 (by kernel_rfl) (by kernel_rfl) h_laws_eqItemS 1 hs_laws_eqItemS (fun z => (r_laws_eqItemS z).trans (nat_laws_eqItemS _ z.1 z.2.1))

/-! ### F5 laws.FnExactFindItem -/
noncomputable def T_laws_FnExactFindItem : List (FuncId × Contract) := [(8, k_laws_szItemS), (10, k_laws_toItemS), (18, k_spec_FindItem), (19, k_impl_FindItem), (20, k_laws_eqItem), (12, k_laws_eqItemS)]
theorem a_laws_FnExactFindItem : AllSound C0 T_laws_FnExactFindItem := .cons so_laws_szItemS (.cons so_laws_toItemS (.cons so_spec_FindItem (.cons so_impl_FindItem (.cons so_laws_eqItem (.cons so_laws_eqItemS (.nil))))))
noncomputable def t_laws_FnExactFindItem {R : Type} (kx : Bool → Option R) (a0 : (List (ByteArray × (Bool × (((Int × (Int × Int)) × (Int × (Int × Int))) × (Int × (Int × (Int × Int)))))))) (a1 : ByteArray) : Option R :=
  cond (decide ((((ByteArray.size a1) : Nat) : Int) > (1048576 : Int)))
  (kx Bool.true)
  (Option.bind (g_laws_szItemS a0 (1048576 : Int)) fun y16 =>
   cond (decide (y16 < (0 : Int)))
   (kx Bool.true)
   (Option.bind (g_laws_toItemS a0) fun y35 =>
    Option.bind (g_spec_FindItem y35 a1) fun y104 =>
    Option.bind (g_laws_toItemS a0) fun y105 =>
    Option.bind (g_impl_FindItem y105 a1) fun y163 =>
    Option.bind (g_laws_eqItem y163.1 y104.1) fun y177 =>
    cond (!y177)
    (kx Bool.false)
    (cond (y163.2 != y104.2)
     (kx Bool.false)
     (Option.bind (g_laws_toItemS a0) fun y178 =>
      Option.bind (g_laws_eqItemS y105 y178) fun y190 =>
      cond (!y190)
      (kx Bool.false)
      (kx Bool.true)))))
noncomputable def g_laws_FnExactFindItem (a0 : (List (ByteArray × (Bool × (((Int × (Int × Int)) × (Int × (Int × Int))) × (Int × (Int × (Int × Int)))))))) (a1 : ByteArray) : Option (Bool) := t_laws_FnExactFindItem some a0 a1
theorem nat_laws_FnExactFindItem {R : Type} (kx : Bool → Option R) (a0 : (List (ByteArray × (Bool × (((Int × (Int × Int)) × (Int × (Int × Int))) × (Int × (Int × (Int × Int)))))))) (a1 : ByteArray) : t_laws_FnExactFindItem kx a0 a1 = (g_laws_FnExactFindItem a0 a1).bind kx := by
  unfold g_laws_FnExactFindItem t_laws_FnExactFindItem
  exact nat_cond (rfl) (nat_bind fun _ => nat_cond (rfl) (nat_bind fun _ => nat_bind fun _ => nat_bind fun _ => nat_bind fun _ => nat_bind fun _ => nat_cond (rfl) (nat_cond (rfl) (nat_bind fun _ => nat_bind fun _ => nat_cond (rfl) (rfl)))))
abbrev as_laws_FnExactFindItem : List AX := [.val false (.slice (.pair .str (.pair .bool (.pair (.pair (.pair (.int .i64) (.pair (.int .i64) (.int .i64))) (.pair (.int .i64) (.pair (.int .i64) (.int .i64)))) (.pair (.int .i64) (.pair (.int .i64) (.pair (.int .i64) (.int .i64)))))))), .val false .str]
abbrev en_laws_FnExactFindItem : Bool → AV × List CV := fun b => (.one ⟨false, [(.v (.bool b))]⟩, [])
noncomputable abbrev k_laws_FnExactFindItem : Contract := .fx as_laws_FnExactFindItem (Bool) (fun z => g_laws_FnExactFindItem z.1 z.2.1) en_laws_FnExactFindItem
theorem r_laws_FnExactFindItem (z : argsX as_laws_FnExactFindItem) : runF (tab C0 T_laws_FnExactFindItem) noHints 1 Tryd.f5 (lentOf as_laws_FnExactFindItem) (xBoxes as_laws_FnExactFindItem z) (xVals as_laws_FnExactFindItem 0 z) K2 = t_laws_FnExactFindItem (fun b => some (en_laws_FnExactFindItem b)) z.1 z.2.1 := by kernel_rfl
theorem so_laws_FnExactFindItem : Sound C0 5 k_laws_FnExactFindItem :=
  Sound.fx a_laws_FnExactFindItem mixed Tryd.func5 (by kernel_rfl) (by kernel_rfl) noHints 1 noHints_ok (fun z => (r_laws_FnExactFindItem z).trans (nat_laws_FnExactFindItem _ z.1 z.2.1))

end Go.Proofs.YtjkljnflaifbhaaDoor
