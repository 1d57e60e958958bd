/- What the functions that Strips reaches compute, printed. No conditions. -/
import Derived.Test.YtjfgddmngnkfdaaW1Q
namespace Go.Proofs.Ytjfgddmngnkfdaa
open Go.Vai
set_option maxRecDepth 100000
noncomputable section

/-! ### F7 laws.b10Long -/
def t_laws_b10Long {R : Type} (kx : Bool → Option R) (a0 : (List Int)) : Option R :=
  kx (decide ((((List.length a0) : Nat) : Int) > (1048576 : Int)))
def g_laws_b10Long (a0 : (List Int)) : Option (Bool) := t_laws_b10Long some a0
theorem nat_laws_b10Long {R} kx a0 : @t_laws_b10Long R kx a0 = (g_laws_b10Long a0).bind kx := by
  unfold g_laws_b10Long t_laws_b10Long
  exact rfl
abbrev k_laws_b10Long : Contract := .fx [.val false (.slice (.int .u8))] (Bool) (fun z => g_laws_b10Long z.1) (fun b => (.one ⟨false, [(.v (.bool b))]⟩, []))
theorem so_laws_b10Long : Sound C0 7 k_laws_b10Long :=
  Sound.fx (e := false) (.nil) mixed Try.func7 (by kernel_rfl) (by kernel_rfl) noHints 1 noHints_ok (fun z => (by kernel_rfl : _ = t_laws_b10Long (fun b => some (k_laws_b10Long.enc b)) z.1).trans (nat_laws_b10Long _ z.1))

/-! ### F33 spec.l00From -/
def t_spec_l00From {R : Type} (kx : ((List Int) × (Int × Int)) → Option R) (a0 : (List Int)) : Option R :=
  kx (a0, ((0 : Int), (0 : Int)))
def g_spec_l00From (a0 : (List Int)) : Option (((List Int) × (Int × Int))) := t_spec_l00From some a0
theorem nat_spec_l00From {R} kx a0 : @t_spec_l00From R kx a0 = (g_spec_l00From a0).bind kx := by
  unfold g_spec_l00From t_spec_l00From
  exact rfl
abbrev k_spec_l00From : Contract := .fx [.val false (.slice (.int .u8))] (((List Int) × (Int × Int))) (fun z => g_spec_l00From z.1) (fun b => (.one ⟨false, [(.np [(.sl (.int .u8) b.1), (.v (.int .i64 b.2.1)), (.v (.int .u64 b.2.2))])]⟩, []))
theorem so_spec_l00From : Sound C0 33 k_spec_l00From :=
  Sound.fx (e := false) (.nil) mixed Try.func33 (by kernel_rfl) (by kernel_rfl) noHints 1 noHints_ok (fun z => (by kernel_rfl : _ = t_spec_l00From (fun b => some (k_spec_l00From.enc b)) z.1).trans (nat_spec_l00From _ z.1))

/-! ### F101 (*spec.l00Src).next -/
def t_spec_l00Src_next {R : Type} (kx : Int × (List Int × (Int × Int)) → Option R) (a0_0 : List Int) (a0_1 : Int) (a0_2 : Int) : Option R :=
  cond (decide (a0_1 < (((List.length a0_0) : Nat) : Int)))
  (Option.bind (idx a0_0 a0_1) fun y24 =>
   cond (decide ((IntKind.wrap IntKind.i64 (a0_1 + (1 : Int))) ≤ (((List.length a0_0) : Nat) : Int)))
   (kx ((IntKind.wrap IntKind.i64 y24), (a0_0, ((IntKind.wrap IntKind.i64 (a0_1 + (1 : Int))), (IntKind.wrap IntKind.u64 ((IntKind.wrap IntKind.u64 ((IntKind.wrap IntKind.u64 (a0_2 * (6364136223846793005 : Int))) + (IntKind.wrap IntKind.u64 (IntKind.wrap IntKind.i64 y24)))) + (1442695040888963407 : Int)))))))
   (kx ((IntKind.wrap IntKind.i64 (IntKind.wrap IntKind.u64 (((BitVec.toNat ((BitVec.ofInt 64 (Int.fdiv (IntKind.wrap IntKind.u64 ((IntKind.wrap IntKind.u64 ((IntKind.wrap IntKind.u64 (a0_2 * (6364136223846793005 : Int))) + (IntKind.wrap IntKind.u64 (IntKind.wrap IntKind.i64 y24)))) + (1442695040888963407 : Int))) ((2 : Int) ^ (Min.min (Int.toNat (40 : Int)) 64)))) &&& (BitVec.ofInt 64 (255 : Int)))) : Nat) : Int))), (a0_0, ((IntKind.wrap IntKind.i64 (a0_1 + (1 : Int))), (IntKind.wrap IntKind.u64 ((IntKind.wrap IntKind.u64 ((IntKind.wrap IntKind.u64 (a0_2 * (6364136223846793005 : Int))) + (IntKind.wrap IntKind.u64 (IntKind.wrap IntKind.i64 y24)))) + (1442695040888963407 : Int))))))))
  (cond (decide ((IntKind.wrap IntKind.i64 (a0_1 + (1 : Int))) ≤ (((List.length a0_0) : Nat) : Int)))
   (kx ((0 : Int), (a0_0, ((IntKind.wrap IntKind.i64 (a0_1 + (1 : Int))), (IntKind.wrap IntKind.u64 ((IntKind.wrap IntKind.u64 ((IntKind.wrap IntKind.u64 (a0_2 * (6364136223846793005 : Int))) + (IntKind.wrap IntKind.u64 (0 : Int)))) + (1442695040888963407 : Int)))))))
   (kx ((IntKind.wrap IntKind.i64 (IntKind.wrap IntKind.u64 (((BitVec.toNat ((BitVec.ofInt 64 (Int.fdiv (IntKind.wrap IntKind.u64 ((IntKind.wrap IntKind.u64 ((IntKind.wrap IntKind.u64 (a0_2 * (6364136223846793005 : Int))) + (IntKind.wrap IntKind.u64 (0 : Int)))) + (1442695040888963407 : Int))) ((2 : Int) ^ (Min.min (Int.toNat (40 : Int)) 64)))) &&& (BitVec.ofInt 64 (255 : Int)))) : Nat) : Int))), (a0_0, ((IntKind.wrap IntKind.i64 (a0_1 + (1 : Int))), (IntKind.wrap IntKind.u64 ((IntKind.wrap IntKind.u64 ((IntKind.wrap IntKind.u64 (a0_2 * (6364136223846793005 : Int))) + (IntKind.wrap IntKind.u64 (0 : Int)))) + (1442695040888963407 : Int))))))))
def g_spec_l00Src_next (a0_0 : List Int) (a0_1 : Int) (a0_2 : Int) : Option (Int × (List Int × (Int × Int))) := t_spec_l00Src_next some a0_0 a0_1 a0_2
theorem nat_spec_l00Src_next {R} kx a0_0 a0_1 a0_2 : @t_spec_l00Src_next R kx a0_0 a0_1 a0_2 = (g_spec_l00Src_next a0_0 a0_1 a0_2).bind kx := by
  unfold g_spec_l00Src_next t_spec_l00Src_next
  exact nat_cond (nat_bind fun _ => nat_cond (rfl) (rfl)) (nat_cond (rfl) (rfl))
abbrev en_spec_l00Src_next : Int × (List Int × (Int × Int)) → AV × List (List CV) := fun b => (.one ⟨false, [(.v (.int .i64 b.1))]⟩, [[(.sl (.int .u8) b.2.1), (.v (.int .i64 b.2.2.1)), (.v (.int .u64 b.2.2.2))]])
abbrev k_spec_l00Src_next : Contract := .fb [.rw [(.sl (.int .u8)), (.int .i64), (.int .u64)]] (Int × (List Int × (Int × Int))) (fun z => g_spec_l00Src_next z.1.1 z.1.2.1 z.1.2.2.1) en_spec_l00Src_next
theorem so_spec_l00Src_next : Sound C0 101 k_spec_l00Src_next :=
  Sound.fb (e := false) (.nil) mixed Try.func101 (by kernel_rfl) (by kernel_rfl) noHints 1 noHints_ok (fun z => (by kernel_rfl : _ = t_spec_l00Src_next (fun b => some (en_spec_l00Src_next b)) z.1.1 z.1.2.1 z.1.2.2.1).trans (nat_spec_l00Src_next _ z.1.1 z.1.2.1 z.1.2.2.1))

/-! ### F65 (*spec.l00Src).pick -/
def t_spec_l00Src_pick {R : Type} (kx : Int × (List Int × (Int × Int)) → Option R) (a0_0 : List Int) (a0_1 : Int) (a0_2 : Int) (a1 : Int) : Option R :=
  cond (decide (a1 ≤ (1 : Int)))
  (kx ((0 : Int), (a0_0, (a0_1, a0_2))))
  (Option.bind (g_spec_l00Src_next a0_0 a0_1 a0_2) fun y25 =>
   cond (decide (a1 > (200 : Int)))
   (Option.bind (g_spec_l00Src_next y25.2.1 y25.2.2.1 y25.2.2.2) fun y26 =>
    cond (decide (a1 = (0 : Int)))
    (none)
    (kx ((Int.tmod (IntKind.wrap IntKind.i64 ((IntKind.wrap IntKind.i64 (y25.1 * (256 : Int))) + y26.1)) a1), y26.2)))
   (cond (decide (a1 = (0 : Int)))
    (none)
    (kx ((Int.tmod y25.1 a1), y25.2))))
def g_spec_l00Src_pick (a0_0 : List Int) (a0_1 : Int) (a0_2 : Int) (a1 : Int) : Option (Int × (List Int × (Int × Int))) := t_spec_l00Src_pick some a0_0 a0_1 a0_2 a1
theorem nat_spec_l00Src_pick {R} kx a0_0 a0_1 a0_2 a1 : @t_spec_l00Src_pick R kx a0_0 a0_1 a0_2 a1 = (g_spec_l00Src_pick a0_0 a0_1 a0_2 a1).bind kx := by
  unfold g_spec_l00Src_pick t_spec_l00Src_pick
  exact nat_cond (rfl) (nat_bind fun _ => nat_cond (nat_bind fun _ => nat_cond (rfl) (rfl)) (nat_cond (rfl) (rfl)))
abbrev en_spec_l00Src_pick : Int × (List Int × (Int × Int)) → AV × List (List CV) := fun b => (.one ⟨false, [(.v (.int .i64 b.1))]⟩, [[(.sl (.int .u8) b.2.1), (.v (.int .i64 b.2.2.1)), (.v (.int .u64 b.2.2.2))]])
abbrev k_spec_l00Src_pick : Contract := .fb [.rw [(.sl (.int .u8)), (.int .i64), (.int .u64)], .val false (.int .i64)] (Int × (List Int × (Int × Int))) (fun z => g_spec_l00Src_pick z.1.1 z.1.2.1 z.1.2.2.1 z.2.1) en_spec_l00Src_pick
theorem so_spec_l00Src_pick : Sound C0 65 k_spec_l00Src_pick :=
  Sound.fb (e := false) (.cons so_spec_l00Src_next (.nil)) mixed Try.func65 (by kernel_rfl) (by kernel_rfl) noHints 1 noHints_ok (fun z => (by kernel_rfl : _ = t_spec_l00Src_pick (fun b => some (en_spec_l00Src_pick b)) z.1.1 z.1.2.1 z.1.2.2.1 z.2.1).trans (nat_spec_l00Src_pick _ z.1.1 z.1.2.1 z.1.2.2.1 z.2.1))

/-! ### F63 spec.l25Draw -/
def T_spec_l25Draw : List (FuncId × Contract) := [(65, k_spec_l00Src_pick)]
abbrev s_spec_l25Draw_4 : LS := ⟨[(false, [(.ptr 145 0)]), (false, [(.ptr 4 0)]), (false, [(.ptr 5 0)]), (false, [(.int .i64)])], [(false, [(.own (.int .i64)), (.own (.int .i64))]), (false, [(.own (.int .i64)), (.own (.int .i64))]), (false, [(.sl (.int .u8)), (.int .i64), (.int .u64)])], []⟩
abbrev e_spec_l25Draw_4_0 : LS := ⟨[(false, [(.ptr 4 0)]), (false, [(.ptr 5 0)])], [(false, [(.own (.int .i64)), (.own (.int .i64))]), (false, [(.own (.int .i64)), (.own (.int .i64))]), (false, [(.sl (.int .u8)), (.int .i64), (.int .u64)])], []⟩
abbrev d_spec_l25Draw_4_0 (v0 : List Int) (v1 : List Int) (v2 : List Int) (v3 : List Int) (v4 : List Int) (v5 : Int) (v6 : Int) := (((((), ()), ((), ()), ()), ((v0, v1, ()), (v2, v3, ()), (v4, v5, v6, ()), ()), ()) : e_spec_l25Draw_4_0.T)
abbrev x_spec_l25Draw_4 : List (Ex × LS) := [(.exit 0, e_spec_l25Draw_4_0)]
abbrev m_spec_l25Draw_4 (x6 : Int) (b0_0 : List Int) (b0_1 : List Int) (b1_0 : List Int) (b1_1 : List Int) (b2_0 : List Int) (b2_1 : Int) (b2_2 : Int) := (((((), ()), ((), ()), ((), ()), (x6, ()), ()), ((b0_0, b0_1, ()), (b1_0, b1_1, ()), (b2_0, b2_1, b2_2, ()), ()), ()) : s_spec_l25Draw_4.T)
def u_spec_l25Draw_4 {R : Type} (nx : s_spec_l25Draw_4.T → Option R) (hx : exH R x_spec_l25Draw_4) (x6 : Int) (b0_0 : List Int) (b0_1 : List Int) (b1_0 : List Int) (b1_1 : List Int) (b2_0 : List Int) (b2_1 : Int) (b2_2 : Int) : Option R :=
  cond (decide ((((List.length b1_0) : Nat) : Int) < x6))
  (Option.bind (g_spec_l00Src_pick b2_0 b2_1 b2_2 (3 : Int)) fun y37 =>
   Option.bind (g_spec_l00Src_pick y37.2.1 y37.2.2.1 y37.2.2.2 (2 : Int)) fun y38 =>
   Option.bind (idx b1_0 (0 : Int)) fun y39 =>
   cond (y37.1 == (0 : Int))
   (Option.bind (g_spec_l00Src_pick y38.2.1 y38.2.2.1 y38.2.2.2 (IntKind.wrap IntKind.i64 (y39 + (1 : Int)))) fun y40 =>
    cond (decide ((((List.length [(IntKind.wrap IntKind.i64 ((1 : Int) + y40.1))]) + (List.length b1_0)) * 8) ≤ 70368744177664))
    (cond (decide (((List.length [(IntKind.wrap IntKind.i64 ((1 : Int) + y40.1))]) + (List.length b1_0)) ≤ 70368744177664))
     (cond (decide ((((List.length [(IntKind.wrap IntKind.i64 ((2 : Int) + y38.1))]) + (List.length b1_1)) * 8) ≤ 70368744177664))
      (cond (decide (((List.length [(IntKind.wrap IntKind.i64 ((2 : Int) + y38.1))]) + (List.length b1_1)) ≤ 70368744177664))
       (nx (m_spec_l25Draw_4 x6 b0_0 b0_1 ([(IntKind.wrap IntKind.i64 ((1 : Int) + y40.1))] ++ b1_0) ([(IntKind.wrap IntKind.i64 ((2 : Int) + y38.1))] ++ b1_1) y40.2.1 y40.2.2.1 y40.2.2.2))
       (none))
      (none))
     (none))
    (none))
   (cond (y37.1 == (1 : Int))
    (Option.bind (g_spec_l00Src_pick y38.2.1 y38.2.2.1 y38.2.2.2 (6 : Int)) fun y41 =>
     cond (decide ((((List.length b1_0) + (List.length [(IntKind.wrap IntKind.i64 ((1 : Int) + y41.1))])) * 8) ≤ 70368744177664))
     (cond (decide (((List.length b1_0) + (List.length [(IntKind.wrap IntKind.i64 ((1 : Int) + y41.1))])) ≤ 70368744177664))
      (cond (decide ((((List.length b1_1) + (List.length [(IntKind.wrap IntKind.i64 ((2 : Int) + y38.1))])) * 8) ≤ 70368744177664))
       (cond (decide (((List.length b1_1) + (List.length [(IntKind.wrap IntKind.i64 ((2 : Int) + y38.1))])) ≤ 70368744177664))
        (nx (m_spec_l25Draw_4 x6 b0_0 b0_1 (b1_0 ++ [(IntKind.wrap IntKind.i64 ((1 : Int) + y41.1))]) (b1_1 ++ [(IntKind.wrap IntKind.i64 ((2 : Int) + y38.1))]) y41.2.1 y41.2.2.1 y41.2.2.2))
        (none))
       (none))
      (none))
     (none))
    (cond (decide ((IntKind.wrap IntKind.i64 ((((List.length b1_0) : Nat) : Int) + (2 : Int))) > x6))
     (Option.bind (g_spec_l00Src_pick y38.2.1 y38.2.2.1 y38.2.2.2 (6 : Int)) fun y42 =>
      cond (decide ((((List.length b1_0) + (List.length [(IntKind.wrap IntKind.i64 ((1 : Int) + y42.1))])) * 8) ≤ 70368744177664))
      (cond (decide (((List.length b1_0) + (List.length [(IntKind.wrap IntKind.i64 ((1 : Int) + y42.1))])) ≤ 70368744177664))
       (cond (decide ((((List.length b1_1) + (List.length [(IntKind.wrap IntKind.i64 ((2 : Int) + y38.1))])) * 8) ≤ 70368744177664))
        (cond (decide (((List.length b1_1) + (List.length [(IntKind.wrap IntKind.i64 ((2 : Int) + y38.1))])) ≤ 70368744177664))
         (nx (m_spec_l25Draw_4 x6 b0_0 b0_1 (b1_0 ++ [(IntKind.wrap IntKind.i64 ((1 : Int) + y42.1))]) (b1_1 ++ [(IntKind.wrap IntKind.i64 ((2 : Int) + y38.1))]) y42.2.1 y42.2.2.1 y42.2.2.2))
         (none))
        (none))
       (none))
      (none))
     (Option.bind (g_spec_l00Src_pick y38.2.1 y38.2.2.1 y38.2.2.2 (((List.length b1_0) : Nat) : Int)) fun y43 =>
      Option.bind (idx b1_0 y43.1) fun y44 =>
      Option.bind (g_spec_l00Src_pick y43.2.1 y43.2.2.1 y43.2.2.2 y44) fun y45 =>
      Option.bind (g_spec_l00Src_pick y45.2.1 y45.2.2.1 y45.2.2.2 (IntKind.wrap IntKind.i64 ((1 : Int) + y45.1))) fun y46 =>
      cond (decide (0 < (List.length b1_0)))
      (cond (decide ((0 : Int) ≤ y43.1))
       (cond (decide (y43.1 ≤ (((List.length b1_0) : Nat) : Int)))
        (cond (decide ((((List.length ([] : List Int)) + (List.length (List.drop 0 (List.take (Int.toNat y43.1) b1_0)))) * 8) ≤ 70368744177664))
         (cond (decide (((List.length ([] : List Int)) + (List.length (List.drop 0 (List.take (Int.toNat y43.1) b1_0)))) ≤ 70368744177664))
          (cond (decide ((((List.length ([] ++ (List.drop 0 (List.take (Int.toNat y43.1) b1_0)))) + (List.length [(IntKind.wrap IntKind.i64 ((1 : Int) + y45.1)), (IntKind.wrap IntKind.i64 ((1 : Int) + y46.1)), (IntKind.wrap IntKind.i64 ((IntKind.wrap IntKind.i64 (y44 - (IntKind.wrap IntKind.i64 ((1 : Int) + y45.1)))) + (IntKind.wrap IntKind.i64 ((1 : Int) + y46.1))))])) * 8) ≤ 70368744177664))
           (cond (decide (((List.length ([] ++ (List.drop 0 (List.take (Int.toNat y43.1) b1_0)))) + (List.length [(IntKind.wrap IntKind.i64 ((1 : Int) + y45.1)), (IntKind.wrap IntKind.i64 ((1 : Int) + y46.1)), (IntKind.wrap IntKind.i64 ((IntKind.wrap IntKind.i64 (y44 - (IntKind.wrap IntKind.i64 ((1 : Int) + y45.1)))) + (IntKind.wrap IntKind.i64 ((1 : Int) + y46.1))))])) ≤ 70368744177664))
            (cond (decide (0 < (List.length b1_1)))
             (cond (decide ((0 : Int) ≤ y43.1))
              (cond (decide (y43.1 ≤ (((List.length b1_1) : Nat) : Int)))
               (cond (decide ((((List.length ([] : List Int)) + (List.length (List.drop 0 (List.take (Int.toNat y43.1) b1_1)))) * 8) ≤ 70368744177664))
                (cond (decide (((List.length ([] : List Int)) + (List.length (List.drop 0 (List.take (Int.toNat y43.1) b1_1)))) ≤ 70368744177664))
                 (cond (decide ((((List.length ([] ++ (List.drop 0 (List.take (Int.toNat y43.1) b1_1)))) + (List.length [(IntKind.wrap IntKind.i64 ((2 : Int) + y38.1)), (IntKind.wrap IntKind.i64 ((5 : Int) - (IntKind.wrap IntKind.i64 ((2 : Int) + y38.1))))])) * 8) ≤ 70368744177664))
                  (cond (decide (((List.length ([] ++ (List.drop 0 (List.take (Int.toNat y43.1) b1_1)))) + (List.length [(IntKind.wrap IntKind.i64 ((2 : Int) + y38.1)), (IntKind.wrap IntKind.i64 ((5 : Int) - (IntKind.wrap IntKind.i64 ((2 : Int) + y38.1))))])) ≤ 70368744177664))
                   (cond (decide (0 < (List.length b1_0)))
                    (cond (decide ((0 : Int) ≤ (IntKind.wrap IntKind.i64 (y43.1 + (1 : Int)))))
                     (cond (decide ((IntKind.wrap IntKind.i64 (y43.1 + (1 : Int))) ≤ (((List.length b1_0) : Nat) : Int)))
                      (cond (decide ((((List.length (([] ++ (List.drop 0 (List.take (Int.toNat y43.1) b1_0))) ++ [(IntKind.wrap IntKind.i64 ((1 : Int) + y45.1)), (IntKind.wrap IntKind.i64 ((1 : Int) + y46.1)), (IntKind.wrap IntKind.i64 ((IntKind.wrap IntKind.i64 (y44 - (IntKind.wrap IntKind.i64 ((1 : Int) + y45.1)))) + (IntKind.wrap IntKind.i64 ((1 : Int) + y46.1))))])) + (List.length (List.drop (Int.toNat (IntKind.wrap IntKind.i64 (y43.1 + (1 : Int)))) (List.take (List.length b1_0) b1_0)))) * 8) ≤ 70368744177664))
                       (cond (decide (((List.length (([] ++ (List.drop 0 (List.take (Int.toNat y43.1) b1_0))) ++ [(IntKind.wrap IntKind.i64 ((1 : Int) + y45.1)), (IntKind.wrap IntKind.i64 ((1 : Int) + y46.1)), (IntKind.wrap IntKind.i64 ((IntKind.wrap IntKind.i64 (y44 - (IntKind.wrap IntKind.i64 ((1 : Int) + y45.1)))) + (IntKind.wrap IntKind.i64 ((1 : Int) + y46.1))))])) + (List.length (List.drop (Int.toNat (IntKind.wrap IntKind.i64 (y43.1 + (1 : Int)))) (List.take (List.length b1_0) b1_0)))) ≤ 70368744177664))
                        (cond (decide (0 < (List.length b1_1)))
                         (cond (decide ((0 : Int) ≤ y43.1))
                          (cond (decide (y43.1 ≤ (((List.length b1_1) : Nat) : Int)))
                           (cond (decide ((((List.length (([] ++ (List.drop 0 (List.take (Int.toNat y43.1) b1_1))) ++ [(IntKind.wrap IntKind.i64 ((2 : Int) + y38.1)), (IntKind.wrap IntKind.i64 ((5 : Int) - (IntKind.wrap IntKind.i64 ((2 : Int) + y38.1))))])) + (List.length (List.drop (Int.toNat y43.1) (List.take (List.length b1_1) b1_1)))) * 8) ≤ 70368744177664))
                            (cond (decide (((List.length (([] ++ (List.drop 0 (List.take (Int.toNat y43.1) b1_1))) ++ [(IntKind.wrap IntKind.i64 ((2 : Int) + y38.1)), (IntKind.wrap IntKind.i64 ((5 : Int) - (IntKind.wrap IntKind.i64 ((2 : Int) + y38.1))))])) + (List.length (List.drop (Int.toNat y43.1) (List.take (List.length b1_1) b1_1)))) ≤ 70368744177664))
                             (nx (m_spec_l25Draw_4 x6 b0_0 b0_1 ((([] ++ (List.drop 0 (List.take (Int.toNat y43.1) b1_0))) ++ [(IntKind.wrap IntKind.i64 ((1 : Int) + y45.1)), (IntKind.wrap IntKind.i64 ((1 : Int) + y46.1)), (IntKind.wrap IntKind.i64 ((IntKind.wrap IntKind.i64 (y44 - (IntKind.wrap IntKind.i64 ((1 : Int) + y45.1)))) + (IntKind.wrap IntKind.i64 ((1 : Int) + y46.1))))]) ++ (List.drop (Int.toNat (IntKind.wrap IntKind.i64 (y43.1 + (1 : Int)))) (List.take (List.length b1_0) b1_0))) ((([] ++ (List.drop 0 (List.take (Int.toNat y43.1) b1_1))) ++ [(IntKind.wrap IntKind.i64 ((2 : Int) + y38.1)), (IntKind.wrap IntKind.i64 ((5 : Int) - (IntKind.wrap IntKind.i64 ((2 : Int) + y38.1))))]) ++ (List.drop (Int.toNat y43.1) (List.take (List.length b1_1) b1_1))) y46.2.1 y46.2.2.1 y46.2.2.2))
                             (none))
                            (none))
                           (none))
                          (none))
                         (cond (decide ((0 : Int) ≤ y43.1))
                          (cond (decide (y43.1 ≤ ((0 : Nat) : Int)))
                           (cond (decide ((((List.length (([] ++ (List.drop 0 (List.take (Int.toNat y43.1) b1_1))) ++ [(IntKind.wrap IntKind.i64 ((2 : Int) + y38.1)), (IntKind.wrap IntKind.i64 ((5 : Int) - (IntKind.wrap IntKind.i64 ((2 : Int) + y38.1))))])) + (List.length ([] : List Int))) * 8) ≤ 70368744177664))
                            (cond (decide (((List.length (([] ++ (List.drop 0 (List.take (Int.toNat y43.1) b1_1))) ++ [(IntKind.wrap IntKind.i64 ((2 : Int) + y38.1)), (IntKind.wrap IntKind.i64 ((5 : Int) - (IntKind.wrap IntKind.i64 ((2 : Int) + y38.1))))])) + (List.length ([] : List Int))) ≤ 70368744177664))
                             (nx (m_spec_l25Draw_4 x6 b0_0 b0_1 ((([] ++ (List.drop 0 (List.take (Int.toNat y43.1) b1_0))) ++ [(IntKind.wrap IntKind.i64 ((1 : Int) + y45.1)), (IntKind.wrap IntKind.i64 ((1 : Int) + y46.1)), (IntKind.wrap IntKind.i64 ((IntKind.wrap IntKind.i64 (y44 - (IntKind.wrap IntKind.i64 ((1 : Int) + y45.1)))) + (IntKind.wrap IntKind.i64 ((1 : Int) + y46.1))))]) ++ (List.drop (Int.toNat (IntKind.wrap IntKind.i64 (y43.1 + (1 : Int)))) (List.take (List.length b1_0) b1_0))) ((([] ++ (List.drop 0 (List.take (Int.toNat y43.1) b1_1))) ++ [(IntKind.wrap IntKind.i64 ((2 : Int) + y38.1)), (IntKind.wrap IntKind.i64 ((5 : Int) - (IntKind.wrap IntKind.i64 ((2 : Int) + y38.1))))]) ++ []) y46.2.1 y46.2.2.1 y46.2.2.2))
                             (none))
                            (none))
                           (none))
                          (none)))
                        (none))
                       (none))
                      (none))
                     (none))
                    (cond (decide ((0 : Int) ≤ (IntKind.wrap IntKind.i64 (y43.1 + (1 : Int)))))
                     (cond (decide ((IntKind.wrap IntKind.i64 (y43.1 + (1 : Int))) ≤ ((0 : Nat) : Int)))
                      (cond (decide ((((List.length (([] ++ (List.drop 0 (List.take (Int.toNat y43.1) b1_0))) ++ [(IntKind.wrap IntKind.i64 ((1 : Int) + y45.1)), (IntKind.wrap IntKind.i64 ((1 : Int) + y46.1)), (IntKind.wrap IntKind.i64 ((IntKind.wrap IntKind.i64 (y44 - (IntKind.wrap IntKind.i64 ((1 : Int) + y45.1)))) + (IntKind.wrap IntKind.i64 ((1 : Int) + y46.1))))])) + (List.length ([] : List Int))) * 8) ≤ 70368744177664))
                       (cond (decide (((List.length (([] ++ (List.drop 0 (List.take (Int.toNat y43.1) b1_0))) ++ [(IntKind.wrap IntKind.i64 ((1 : Int) + y45.1)), (IntKind.wrap IntKind.i64 ((1 : Int) + y46.1)), (IntKind.wrap IntKind.i64 ((IntKind.wrap IntKind.i64 (y44 - (IntKind.wrap IntKind.i64 ((1 : Int) + y45.1)))) + (IntKind.wrap IntKind.i64 ((1 : Int) + y46.1))))])) + (List.length ([] : List Int))) ≤ 70368744177664))
                        (cond (decide (0 < (List.length b1_1)))
                         (cond (decide ((0 : Int) ≤ y43.1))
                          (cond (decide (y43.1 ≤ (((List.length b1_1) : Nat) : Int)))
                           (cond (decide ((((List.length (([] ++ (List.drop 0 (List.take (Int.toNat y43.1) b1_1))) ++ [(IntKind.wrap IntKind.i64 ((2 : Int) + y38.1)), (IntKind.wrap IntKind.i64 ((5 : Int) - (IntKind.wrap IntKind.i64 ((2 : Int) + y38.1))))])) + (List.length (List.drop (Int.toNat y43.1) (List.take (List.length b1_1) b1_1)))) * 8) ≤ 70368744177664))
                            (cond (decide (((List.length (([] ++ (List.drop 0 (List.take (Int.toNat y43.1) b1_1))) ++ [(IntKind.wrap IntKind.i64 ((2 : Int) + y38.1)), (IntKind.wrap IntKind.i64 ((5 : Int) - (IntKind.wrap IntKind.i64 ((2 : Int) + y38.1))))])) + (List.length (List.drop (Int.toNat y43.1) (List.take (List.length b1_1) b1_1)))) ≤ 70368744177664))
                             (nx (m_spec_l25Draw_4 x6 b0_0 b0_1 ((([] ++ (List.drop 0 (List.take (Int.toNat y43.1) b1_0))) ++ [(IntKind.wrap IntKind.i64 ((1 : Int) + y45.1)), (IntKind.wrap IntKind.i64 ((1 : Int) + y46.1)), (IntKind.wrap IntKind.i64 ((IntKind.wrap IntKind.i64 (y44 - (IntKind.wrap IntKind.i64 ((1 : Int) + y45.1)))) + (IntKind.wrap IntKind.i64 ((1 : Int) + y46.1))))]) ++ []) ((([] ++ (List.drop 0 (List.take (Int.toNat y43.1) b1_1))) ++ [(IntKind.wrap IntKind.i64 ((2 : Int) + y38.1)), (IntKind.wrap IntKind.i64 ((5 : Int) - (IntKind.wrap IntKind.i64 ((2 : Int) + y38.1))))]) ++ (List.drop (Int.toNat y43.1) (List.take (List.length b1_1) b1_1))) y46.2.1 y46.2.2.1 y46.2.2.2))
                             (none))
                            (none))
                           (none))
                          (none))
                         (cond (decide ((0 : Int) ≤ y43.1))
                          (cond (decide (y43.1 ≤ ((0 : Nat) : Int)))
                           (cond (decide ((((List.length (([] ++ (List.drop 0 (List.take (Int.toNat y43.1) b1_1))) ++ [(IntKind.wrap IntKind.i64 ((2 : Int) + y38.1)), (IntKind.wrap IntKind.i64 ((5 : Int) - (IntKind.wrap IntKind.i64 ((2 : Int) + y38.1))))])) + (List.length ([] : List Int))) * 8) ≤ 70368744177664))
                            (cond (decide (((List.length (([] ++ (List.drop 0 (List.take (Int.toNat y43.1) b1_1))) ++ [(IntKind.wrap IntKind.i64 ((2 : Int) + y38.1)), (IntKind.wrap IntKind.i64 ((5 : Int) - (IntKind.wrap IntKind.i64 ((2 : Int) + y38.1))))])) + (List.length ([] : List Int))) ≤ 70368744177664))
                             (nx (m_spec_l25Draw_4 x6 b0_0 b0_1 ((([] ++ (List.drop 0 (List.take (Int.toNat y43.1) b1_0))) ++ [(IntKind.wrap IntKind.i64 ((1 : Int) + y45.1)), (IntKind.wrap IntKind.i64 ((1 : Int) + y46.1)), (IntKind.wrap IntKind.i64 ((IntKind.wrap IntKind.i64 (y44 - (IntKind.wrap IntKind.i64 ((1 : Int) + y45.1)))) + (IntKind.wrap IntKind.i64 ((1 : Int) + y46.1))))]) ++ []) ((([] ++ (List.drop 0 (List.take (Int.toNat y43.1) b1_1))) ++ [(IntKind.wrap IntKind.i64 ((2 : Int) + y38.1)), (IntKind.wrap IntKind.i64 ((5 : Int) - (IntKind.wrap IntKind.i64 ((2 : Int) + y38.1))))]) ++ []) y46.2.1 y46.2.2.1 y46.2.2.2))
                             (none))
                            (none))
                           (none))
                          (none)))
                        (none))
                       (none))
                      (none))
                     (none)))
                   (none))
                  (none))
                 (none))
                (none))
               (none))
              (none))
             (cond (decide ((0 : Int) ≤ y43.1))
              (cond (decide (y43.1 ≤ ((0 : Nat) : Int)))
               (cond (decide (0 < (List.length b1_0)))
                (cond (decide ((0 : Int) ≤ (IntKind.wrap IntKind.i64 (y43.1 + (1 : Int)))))
                 (cond (decide ((IntKind.wrap IntKind.i64 (y43.1 + (1 : Int))) ≤ (((List.length b1_0) : Nat) : Int)))
                  (cond (decide ((((List.length (([] ++ (List.drop 0 (List.take (Int.toNat y43.1) b1_0))) ++ [(IntKind.wrap IntKind.i64 ((1 : Int) + y45.1)), (IntKind.wrap IntKind.i64 ((1 : Int) + y46.1)), (IntKind.wrap IntKind.i64 ((IntKind.wrap IntKind.i64 (y44 - (IntKind.wrap IntKind.i64 ((1 : Int) + y45.1)))) + (IntKind.wrap IntKind.i64 ((1 : Int) + y46.1))))])) + (List.length (List.drop (Int.toNat (IntKind.wrap IntKind.i64 (y43.1 + (1 : Int)))) (List.take (List.length b1_0) b1_0)))) * 8) ≤ 70368744177664))
                   (cond (decide (((List.length (([] ++ (List.drop 0 (List.take (Int.toNat y43.1) b1_0))) ++ [(IntKind.wrap IntKind.i64 ((1 : Int) + y45.1)), (IntKind.wrap IntKind.i64 ((1 : Int) + y46.1)), (IntKind.wrap IntKind.i64 ((IntKind.wrap IntKind.i64 (y44 - (IntKind.wrap IntKind.i64 ((1 : Int) + y45.1)))) + (IntKind.wrap IntKind.i64 ((1 : Int) + y46.1))))])) + (List.length (List.drop (Int.toNat (IntKind.wrap IntKind.i64 (y43.1 + (1 : Int)))) (List.take (List.length b1_0) b1_0)))) ≤ 70368744177664))
                    (cond (decide (0 < (List.length b1_1)))
                     (cond (decide ((0 : Int) ≤ y43.1))
                      (cond (decide (y43.1 ≤ (((List.length b1_1) : Nat) : Int)))
                       (cond (decide ((((List.length (([] ++ []) ++ [(IntKind.wrap IntKind.i64 ((2 : Int) + y38.1)), (IntKind.wrap IntKind.i64 ((5 : Int) - (IntKind.wrap IntKind.i64 ((2 : Int) + y38.1))))])) + (List.length (List.drop (Int.toNat y43.1) (List.take (List.length b1_1) b1_1)))) * 8) ≤ 70368744177664))
                        (cond (decide (((List.length (([] ++ []) ++ [(IntKind.wrap IntKind.i64 ((2 : Int) + y38.1)), (IntKind.wrap IntKind.i64 ((5 : Int) - (IntKind.wrap IntKind.i64 ((2 : Int) + y38.1))))])) + (List.length (List.drop (Int.toNat y43.1) (List.take (List.length b1_1) b1_1)))) ≤ 70368744177664))
                         (nx (m_spec_l25Draw_4 x6 b0_0 b0_1 ((([] ++ (List.drop 0 (List.take (Int.toNat y43.1) b1_0))) ++ [(IntKind.wrap IntKind.i64 ((1 : Int) + y45.1)), (IntKind.wrap IntKind.i64 ((1 : Int) + y46.1)), (IntKind.wrap IntKind.i64 ((IntKind.wrap IntKind.i64 (y44 - (IntKind.wrap IntKind.i64 ((1 : Int) + y45.1)))) + (IntKind.wrap IntKind.i64 ((1 : Int) + y46.1))))]) ++ (List.drop (Int.toNat (IntKind.wrap IntKind.i64 (y43.1 + (1 : Int)))) (List.take (List.length b1_0) b1_0))) ((([] ++ []) ++ [(IntKind.wrap IntKind.i64 ((2 : Int) + y38.1)), (IntKind.wrap IntKind.i64 ((5 : Int) - (IntKind.wrap IntKind.i64 ((2 : Int) + y38.1))))]) ++ (List.drop (Int.toNat y43.1) (List.take (List.length b1_1) b1_1))) y46.2.1 y46.2.2.1 y46.2.2.2))
                         (none))
                        (none))
                       (none))
                      (none))
                     (cond (decide ((0 : Int) ≤ y43.1))
                      (cond (decide (y43.1 ≤ ((0 : Nat) : Int)))
                       (nx (m_spec_l25Draw_4 x6 b0_0 b0_1 ((([] ++ (List.drop 0 (List.take (Int.toNat y43.1) b1_0))) ++ [(IntKind.wrap IntKind.i64 ((1 : Int) + y45.1)), (IntKind.wrap IntKind.i64 ((1 : Int) + y46.1)), (IntKind.wrap IntKind.i64 ((IntKind.wrap IntKind.i64 (y44 - (IntKind.wrap IntKind.i64 ((1 : Int) + y45.1)))) + (IntKind.wrap IntKind.i64 ((1 : Int) + y46.1))))]) ++ (List.drop (Int.toNat (IntKind.wrap IntKind.i64 (y43.1 + (1 : Int)))) (List.take (List.length b1_0) b1_0))) ((([] ++ []) ++ [(IntKind.wrap IntKind.i64 ((2 : Int) + y38.1)), (IntKind.wrap IntKind.i64 ((5 : Int) - (IntKind.wrap IntKind.i64 ((2 : Int) + y38.1))))]) ++ []) y46.2.1 y46.2.2.1 y46.2.2.2))
                       (none))
                      (none)))
                    (none))
                   (none))
                  (none))
                 (none))
                (cond (decide ((0 : Int) ≤ (IntKind.wrap IntKind.i64 (y43.1 + (1 : Int)))))
                 (cond (decide ((IntKind.wrap IntKind.i64 (y43.1 + (1 : Int))) ≤ ((0 : Nat) : Int)))
                  (cond (decide ((((List.length (([] ++ (List.drop 0 (List.take (Int.toNat y43.1) b1_0))) ++ [(IntKind.wrap IntKind.i64 ((1 : Int) + y45.1)), (IntKind.wrap IntKind.i64 ((1 : Int) + y46.1)), (IntKind.wrap IntKind.i64 ((IntKind.wrap IntKind.i64 (y44 - (IntKind.wrap IntKind.i64 ((1 : Int) + y45.1)))) + (IntKind.wrap IntKind.i64 ((1 : Int) + y46.1))))])) + (List.length ([] : List Int))) * 8) ≤ 70368744177664))
                   (cond (decide (((List.length (([] ++ (List.drop 0 (List.take (Int.toNat y43.1) b1_0))) ++ [(IntKind.wrap IntKind.i64 ((1 : Int) + y45.1)), (IntKind.wrap IntKind.i64 ((1 : Int) + y46.1)), (IntKind.wrap IntKind.i64 ((IntKind.wrap IntKind.i64 (y44 - (IntKind.wrap IntKind.i64 ((1 : Int) + y45.1)))) + (IntKind.wrap IntKind.i64 ((1 : Int) + y46.1))))])) + (List.length ([] : List Int))) ≤ 70368744177664))
                    (cond (decide (0 < (List.length b1_1)))
                     (cond (decide ((0 : Int) ≤ y43.1))
                      (cond (decide (y43.1 ≤ (((List.length b1_1) : Nat) : Int)))
                       (cond (decide ((((List.length (([] ++ []) ++ [(IntKind.wrap IntKind.i64 ((2 : Int) + y38.1)), (IntKind.wrap IntKind.i64 ((5 : Int) - (IntKind.wrap IntKind.i64 ((2 : Int) + y38.1))))])) + (List.length (List.drop (Int.toNat y43.1) (List.take (List.length b1_1) b1_1)))) * 8) ≤ 70368744177664))
                        (cond (decide (((List.length (([] ++ []) ++ [(IntKind.wrap IntKind.i64 ((2 : Int) + y38.1)), (IntKind.wrap IntKind.i64 ((5 : Int) - (IntKind.wrap IntKind.i64 ((2 : Int) + y38.1))))])) + (List.length (List.drop (Int.toNat y43.1) (List.take (List.length b1_1) b1_1)))) ≤ 70368744177664))
                         (nx (m_spec_l25Draw_4 x6 b0_0 b0_1 ((([] ++ (List.drop 0 (List.take (Int.toNat y43.1) b1_0))) ++ [(IntKind.wrap IntKind.i64 ((1 : Int) + y45.1)), (IntKind.wrap IntKind.i64 ((1 : Int) + y46.1)), (IntKind.wrap IntKind.i64 ((IntKind.wrap IntKind.i64 (y44 - (IntKind.wrap IntKind.i64 ((1 : Int) + y45.1)))) + (IntKind.wrap IntKind.i64 ((1 : Int) + y46.1))))]) ++ []) ((([] ++ []) ++ [(IntKind.wrap IntKind.i64 ((2 : Int) + y38.1)), (IntKind.wrap IntKind.i64 ((5 : Int) - (IntKind.wrap IntKind.i64 ((2 : Int) + y38.1))))]) ++ (List.drop (Int.toNat y43.1) (List.take (List.length b1_1) b1_1))) y46.2.1 y46.2.2.1 y46.2.2.2))
                         (none))
                        (none))
                       (none))
                      (none))
                     (cond (decide ((0 : Int) ≤ y43.1))
                      (cond (decide (y43.1 ≤ ((0 : Nat) : Int)))
                       (nx (m_spec_l25Draw_4 x6 b0_0 b0_1 ((([] ++ (List.drop 0 (List.take (Int.toNat y43.1) b1_0))) ++ [(IntKind.wrap IntKind.i64 ((1 : Int) + y45.1)), (IntKind.wrap IntKind.i64 ((1 : Int) + y46.1)), (IntKind.wrap IntKind.i64 ((IntKind.wrap IntKind.i64 (y44 - (IntKind.wrap IntKind.i64 ((1 : Int) + y45.1)))) + (IntKind.wrap IntKind.i64 ((1 : Int) + y46.1))))]) ++ []) ((([] ++ []) ++ [(IntKind.wrap IntKind.i64 ((2 : Int) + y38.1)), (IntKind.wrap IntKind.i64 ((5 : Int) - (IntKind.wrap IntKind.i64 ((2 : Int) + y38.1))))]) ++ []) y46.2.1 y46.2.2.1 y46.2.2.2))
                       (none))
                      (none)))
                    (none))
                   (none))
                  (none))
                 (none)))
               (none))
              (none)))
            (none))
           (none))
          (none))
         (none))
        (none))
       (none))
      (cond (decide ((0 : Int) ≤ y43.1))
       (cond (decide (y43.1 ≤ ((0 : Nat) : Int)))
        (cond (decide (0 < (List.length b1_1)))
         (cond (decide ((0 : Int) ≤ y43.1))
          (cond (decide (y43.1 ≤ (((List.length b1_1) : Nat) : Int)))
           (cond (decide ((((List.length ([] : List Int)) + (List.length (List.drop 0 (List.take (Int.toNat y43.1) b1_1)))) * 8) ≤ 70368744177664))
            (cond (decide (((List.length ([] : List Int)) + (List.length (List.drop 0 (List.take (Int.toNat y43.1) b1_1)))) ≤ 70368744177664))
             (cond (decide ((((List.length ([] ++ (List.drop 0 (List.take (Int.toNat y43.1) b1_1)))) + (List.length [(IntKind.wrap IntKind.i64 ((2 : Int) + y38.1)), (IntKind.wrap IntKind.i64 ((5 : Int) - (IntKind.wrap IntKind.i64 ((2 : Int) + y38.1))))])) * 8) ≤ 70368744177664))
              (cond (decide (((List.length ([] ++ (List.drop 0 (List.take (Int.toNat y43.1) b1_1)))) + (List.length [(IntKind.wrap IntKind.i64 ((2 : Int) + y38.1)), (IntKind.wrap IntKind.i64 ((5 : Int) - (IntKind.wrap IntKind.i64 ((2 : Int) + y38.1))))])) ≤ 70368744177664))
               (cond (decide (0 < (List.length b1_0)))
                (cond (decide ((0 : Int) ≤ (IntKind.wrap IntKind.i64 (y43.1 + (1 : Int)))))
                 (cond (decide ((IntKind.wrap IntKind.i64 (y43.1 + (1 : Int))) ≤ (((List.length b1_0) : Nat) : Int)))
                  (cond (decide ((((List.length (([] ++ []) ++ [(IntKind.wrap IntKind.i64 ((1 : Int) + y45.1)), (IntKind.wrap IntKind.i64 ((1 : Int) + y46.1)), (IntKind.wrap IntKind.i64 ((IntKind.wrap IntKind.i64 (y44 - (IntKind.wrap IntKind.i64 ((1 : Int) + y45.1)))) + (IntKind.wrap IntKind.i64 ((1 : Int) + y46.1))))])) + (List.length (List.drop (Int.toNat (IntKind.wrap IntKind.i64 (y43.1 + (1 : Int)))) (List.take (List.length b1_0) b1_0)))) * 8) ≤ 70368744177664))
                   (cond (decide (((List.length (([] ++ []) ++ [(IntKind.wrap IntKind.i64 ((1 : Int) + y45.1)), (IntKind.wrap IntKind.i64 ((1 : Int) + y46.1)), (IntKind.wrap IntKind.i64 ((IntKind.wrap IntKind.i64 (y44 - (IntKind.wrap IntKind.i64 ((1 : Int) + y45.1)))) + (IntKind.wrap IntKind.i64 ((1 : Int) + y46.1))))])) + (List.length (List.drop (Int.toNat (IntKind.wrap IntKind.i64 (y43.1 + (1 : Int)))) (List.take (List.length b1_0) b1_0)))) ≤ 70368744177664))
                    (cond (decide (0 < (List.length b1_1)))
                     (cond (decide ((0 : Int) ≤ y43.1))
                      (cond (decide (y43.1 ≤ (((List.length b1_1) : Nat) : Int)))
                       (cond (decide ((((List.length (([] ++ (List.drop 0 (List.take (Int.toNat y43.1) b1_1))) ++ [(IntKind.wrap IntKind.i64 ((2 : Int) + y38.1)), (IntKind.wrap IntKind.i64 ((5 : Int) - (IntKind.wrap IntKind.i64 ((2 : Int) + y38.1))))])) + (List.length (List.drop (Int.toNat y43.1) (List.take (List.length b1_1) b1_1)))) * 8) ≤ 70368744177664))
                        (cond (decide (((List.length (([] ++ (List.drop 0 (List.take (Int.toNat y43.1) b1_1))) ++ [(IntKind.wrap IntKind.i64 ((2 : Int) + y38.1)), (IntKind.wrap IntKind.i64 ((5 : Int) - (IntKind.wrap IntKind.i64 ((2 : Int) + y38.1))))])) + (List.length (List.drop (Int.toNat y43.1) (List.take (List.length b1_1) b1_1)))) ≤ 70368744177664))
                         (nx (m_spec_l25Draw_4 x6 b0_0 b0_1 ((([] ++ []) ++ [(IntKind.wrap IntKind.i64 ((1 : Int) + y45.1)), (IntKind.wrap IntKind.i64 ((1 : Int) + y46.1)), (IntKind.wrap IntKind.i64 ((IntKind.wrap IntKind.i64 (y44 - (IntKind.wrap IntKind.i64 ((1 : Int) + y45.1)))) + (IntKind.wrap IntKind.i64 ((1 : Int) + y46.1))))]) ++ (List.drop (Int.toNat (IntKind.wrap IntKind.i64 (y43.1 + (1 : Int)))) (List.take (List.length b1_0) b1_0))) ((([] ++ (List.drop 0 (List.take (Int.toNat y43.1) b1_1))) ++ [(IntKind.wrap IntKind.i64 ((2 : Int) + y38.1)), (IntKind.wrap IntKind.i64 ((5 : Int) - (IntKind.wrap IntKind.i64 ((2 : Int) + y38.1))))]) ++ (List.drop (Int.toNat y43.1) (List.take (List.length b1_1) b1_1))) y46.2.1 y46.2.2.1 y46.2.2.2))
                         (none))
                        (none))
                       (none))
                      (none))
                     (cond (decide ((0 : Int) ≤ y43.1))
                      (cond (decide (y43.1 ≤ ((0 : Nat) : Int)))
                       (cond (decide ((((List.length (([] ++ (List.drop 0 (List.take (Int.toNat y43.1) b1_1))) ++ [(IntKind.wrap IntKind.i64 ((2 : Int) + y38.1)), (IntKind.wrap IntKind.i64 ((5 : Int) - (IntKind.wrap IntKind.i64 ((2 : Int) + y38.1))))])) + (List.length ([] : List Int))) * 8) ≤ 70368744177664))
                        (cond (decide (((List.length (([] ++ (List.drop 0 (List.take (Int.toNat y43.1) b1_1))) ++ [(IntKind.wrap IntKind.i64 ((2 : Int) + y38.1)), (IntKind.wrap IntKind.i64 ((5 : Int) - (IntKind.wrap IntKind.i64 ((2 : Int) + y38.1))))])) + (List.length ([] : List Int))) ≤ 70368744177664))
                         (nx (m_spec_l25Draw_4 x6 b0_0 b0_1 ((([] ++ []) ++ [(IntKind.wrap IntKind.i64 ((1 : Int) + y45.1)), (IntKind.wrap IntKind.i64 ((1 : Int) + y46.1)), (IntKind.wrap IntKind.i64 ((IntKind.wrap IntKind.i64 (y44 - (IntKind.wrap IntKind.i64 ((1 : Int) + y45.1)))) + (IntKind.wrap IntKind.i64 ((1 : Int) + y46.1))))]) ++ (List.drop (Int.toNat (IntKind.wrap IntKind.i64 (y43.1 + (1 : Int)))) (List.take (List.length b1_0) b1_0))) ((([] ++ (List.drop 0 (List.take (Int.toNat y43.1) b1_1))) ++ [(IntKind.wrap IntKind.i64 ((2 : Int) + y38.1)), (IntKind.wrap IntKind.i64 ((5 : Int) - (IntKind.wrap IntKind.i64 ((2 : Int) + y38.1))))]) ++ []) y46.2.1 y46.2.2.1 y46.2.2.2))
                         (none))
                        (none))
                       (none))
                      (none)))
                    (none))
                   (none))
                  (none))
                 (none))
                (cond (decide ((0 : Int) ≤ (IntKind.wrap IntKind.i64 (y43.1 + (1 : Int)))))
                 (cond (decide ((IntKind.wrap IntKind.i64 (y43.1 + (1 : Int))) ≤ ((0 : Nat) : Int)))
                  (cond (decide (0 < (List.length b1_1)))
                   (cond (decide ((0 : Int) ≤ y43.1))
                    (cond (decide (y43.1 ≤ (((List.length b1_1) : Nat) : Int)))
                     (cond (decide ((((List.length (([] ++ (List.drop 0 (List.take (Int.toNat y43.1) b1_1))) ++ [(IntKind.wrap IntKind.i64 ((2 : Int) + y38.1)), (IntKind.wrap IntKind.i64 ((5 : Int) - (IntKind.wrap IntKind.i64 ((2 : Int) + y38.1))))])) + (List.length (List.drop (Int.toNat y43.1) (List.take (List.length b1_1) b1_1)))) * 8) ≤ 70368744177664))
                      (cond (decide (((List.length (([] ++ (List.drop 0 (List.take (Int.toNat y43.1) b1_1))) ++ [(IntKind.wrap IntKind.i64 ((2 : Int) + y38.1)), (IntKind.wrap IntKind.i64 ((5 : Int) - (IntKind.wrap IntKind.i64 ((2 : Int) + y38.1))))])) + (List.length (List.drop (Int.toNat y43.1) (List.take (List.length b1_1) b1_1)))) ≤ 70368744177664))
                       (nx (m_spec_l25Draw_4 x6 b0_0 b0_1 ((([] ++ []) ++ [(IntKind.wrap IntKind.i64 ((1 : Int) + y45.1)), (IntKind.wrap IntKind.i64 ((1 : Int) + y46.1)), (IntKind.wrap IntKind.i64 ((IntKind.wrap IntKind.i64 (y44 - (IntKind.wrap IntKind.i64 ((1 : Int) + y45.1)))) + (IntKind.wrap IntKind.i64 ((1 : Int) + y46.1))))]) ++ []) ((([] ++ (List.drop 0 (List.take (Int.toNat y43.1) b1_1))) ++ [(IntKind.wrap IntKind.i64 ((2 : Int) + y38.1)), (IntKind.wrap IntKind.i64 ((5 : Int) - (IntKind.wrap IntKind.i64 ((2 : Int) + y38.1))))]) ++ (List.drop (Int.toNat y43.1) (List.take (List.length b1_1) b1_1))) y46.2.1 y46.2.2.1 y46.2.2.2))
                       (none))
                      (none))
                     (none))
                    (none))
                   (cond (decide ((0 : Int) ≤ y43.1))
                    (cond (decide (y43.1 ≤ ((0 : Nat) : Int)))
                     (cond (decide ((((List.length (([] ++ (List.drop 0 (List.take (Int.toNat y43.1) b1_1))) ++ [(IntKind.wrap IntKind.i64 ((2 : Int) + y38.1)), (IntKind.wrap IntKind.i64 ((5 : Int) - (IntKind.wrap IntKind.i64 ((2 : Int) + y38.1))))])) + (List.length ([] : List Int))) * 8) ≤ 70368744177664))
                      (cond (decide (((List.length (([] ++ (List.drop 0 (List.take (Int.toNat y43.1) b1_1))) ++ [(IntKind.wrap IntKind.i64 ((2 : Int) + y38.1)), (IntKind.wrap IntKind.i64 ((5 : Int) - (IntKind.wrap IntKind.i64 ((2 : Int) + y38.1))))])) + (List.length ([] : List Int))) ≤ 70368744177664))
                       (nx (m_spec_l25Draw_4 x6 b0_0 b0_1 ((([] ++ []) ++ [(IntKind.wrap IntKind.i64 ((1 : Int) + y45.1)), (IntKind.wrap IntKind.i64 ((1 : Int) + y46.1)), (IntKind.wrap IntKind.i64 ((IntKind.wrap IntKind.i64 (y44 - (IntKind.wrap IntKind.i64 ((1 : Int) + y45.1)))) + (IntKind.wrap IntKind.i64 ((1 : Int) + y46.1))))]) ++ []) ((([] ++ (List.drop 0 (List.take (Int.toNat y43.1) b1_1))) ++ [(IntKind.wrap IntKind.i64 ((2 : Int) + y38.1)), (IntKind.wrap IntKind.i64 ((5 : Int) - (IntKind.wrap IntKind.i64 ((2 : Int) + y38.1))))]) ++ []) y46.2.1 y46.2.2.1 y46.2.2.2))
                       (none))
                      (none))
                     (none))
                    (none)))
                  (none))
                 (none)))
               (none))
              (none))
             (none))
            (none))
           (none))
          (none))
         (cond (decide ((0 : Int) ≤ y43.1))
          (cond (decide (y43.1 ≤ ((0 : Nat) : Int)))
           (cond (decide (0 < (List.length b1_0)))
            (cond (decide ((0 : Int) ≤ (IntKind.wrap IntKind.i64 (y43.1 + (1 : Int)))))
             (cond (decide ((IntKind.wrap IntKind.i64 (y43.1 + (1 : Int))) ≤ (((List.length b1_0) : Nat) : Int)))
              (cond (decide ((((List.length (([] ++ []) ++ [(IntKind.wrap IntKind.i64 ((1 : Int) + y45.1)), (IntKind.wrap IntKind.i64 ((1 : Int) + y46.1)), (IntKind.wrap IntKind.i64 ((IntKind.wrap IntKind.i64 (y44 - (IntKind.wrap IntKind.i64 ((1 : Int) + y45.1)))) + (IntKind.wrap IntKind.i64 ((1 : Int) + y46.1))))])) + (List.length (List.drop (Int.toNat (IntKind.wrap IntKind.i64 (y43.1 + (1 : Int)))) (List.take (List.length b1_0) b1_0)))) * 8) ≤ 70368744177664))
               (cond (decide (((List.length (([] ++ []) ++ [(IntKind.wrap IntKind.i64 ((1 : Int) + y45.1)), (IntKind.wrap IntKind.i64 ((1 : Int) + y46.1)), (IntKind.wrap IntKind.i64 ((IntKind.wrap IntKind.i64 (y44 - (IntKind.wrap IntKind.i64 ((1 : Int) + y45.1)))) + (IntKind.wrap IntKind.i64 ((1 : Int) + y46.1))))])) + (List.length (List.drop (Int.toNat (IntKind.wrap IntKind.i64 (y43.1 + (1 : Int)))) (List.take (List.length b1_0) b1_0)))) ≤ 70368744177664))
                (cond (decide (0 < (List.length b1_1)))
                 (cond (decide ((0 : Int) ≤ y43.1))
                  (cond (decide (y43.1 ≤ (((List.length b1_1) : Nat) : Int)))
                   (cond (decide ((((List.length (([] ++ []) ++ [(IntKind.wrap IntKind.i64 ((2 : Int) + y38.1)), (IntKind.wrap IntKind.i64 ((5 : Int) - (IntKind.wrap IntKind.i64 ((2 : Int) + y38.1))))])) + (List.length (List.drop (Int.toNat y43.1) (List.take (List.length b1_1) b1_1)))) * 8) ≤ 70368744177664))
                    (cond (decide (((List.length (([] ++ []) ++ [(IntKind.wrap IntKind.i64 ((2 : Int) + y38.1)), (IntKind.wrap IntKind.i64 ((5 : Int) - (IntKind.wrap IntKind.i64 ((2 : Int) + y38.1))))])) + (List.length (List.drop (Int.toNat y43.1) (List.take (List.length b1_1) b1_1)))) ≤ 70368744177664))
                     (nx (m_spec_l25Draw_4 x6 b0_0 b0_1 ((([] ++ []) ++ [(IntKind.wrap IntKind.i64 ((1 : Int) + y45.1)), (IntKind.wrap IntKind.i64 ((1 : Int) + y46.1)), (IntKind.wrap IntKind.i64 ((IntKind.wrap IntKind.i64 (y44 - (IntKind.wrap IntKind.i64 ((1 : Int) + y45.1)))) + (IntKind.wrap IntKind.i64 ((1 : Int) + y46.1))))]) ++ (List.drop (Int.toNat (IntKind.wrap IntKind.i64 (y43.1 + (1 : Int)))) (List.take (List.length b1_0) b1_0))) ((([] ++ []) ++ [(IntKind.wrap IntKind.i64 ((2 : Int) + y38.1)), (IntKind.wrap IntKind.i64 ((5 : Int) - (IntKind.wrap IntKind.i64 ((2 : Int) + y38.1))))]) ++ (List.drop (Int.toNat y43.1) (List.take (List.length b1_1) b1_1))) y46.2.1 y46.2.2.1 y46.2.2.2))
                     (none))
                    (none))
                   (none))
                  (none))
                 (cond (decide ((0 : Int) ≤ y43.1))
                  (cond (decide (y43.1 ≤ ((0 : Nat) : Int)))
                   (nx (m_spec_l25Draw_4 x6 b0_0 b0_1 ((([] ++ []) ++ [(IntKind.wrap IntKind.i64 ((1 : Int) + y45.1)), (IntKind.wrap IntKind.i64 ((1 : Int) + y46.1)), (IntKind.wrap IntKind.i64 ((IntKind.wrap IntKind.i64 (y44 - (IntKind.wrap IntKind.i64 ((1 : Int) + y45.1)))) + (IntKind.wrap IntKind.i64 ((1 : Int) + y46.1))))]) ++ (List.drop (Int.toNat (IntKind.wrap IntKind.i64 (y43.1 + (1 : Int)))) (List.take (List.length b1_0) b1_0))) ((([] ++ []) ++ [(IntKind.wrap IntKind.i64 ((2 : Int) + y38.1)), (IntKind.wrap IntKind.i64 ((5 : Int) - (IntKind.wrap IntKind.i64 ((2 : Int) + y38.1))))]) ++ []) y46.2.1 y46.2.2.1 y46.2.2.2))
                   (none))
                  (none)))
                (none))
               (none))
              (none))
             (none))
            (cond (decide ((0 : Int) ≤ (IntKind.wrap IntKind.i64 (y43.1 + (1 : Int)))))
             (cond (decide ((IntKind.wrap IntKind.i64 (y43.1 + (1 : Int))) ≤ ((0 : Nat) : Int)))
              (cond (decide (0 < (List.length b1_1)))
               (cond (decide ((0 : Int) ≤ y43.1))
                (cond (decide (y43.1 ≤ (((List.length b1_1) : Nat) : Int)))
                 (cond (decide ((((List.length (([] ++ []) ++ [(IntKind.wrap IntKind.i64 ((2 : Int) + y38.1)), (IntKind.wrap IntKind.i64 ((5 : Int) - (IntKind.wrap IntKind.i64 ((2 : Int) + y38.1))))])) + (List.length (List.drop (Int.toNat y43.1) (List.take (List.length b1_1) b1_1)))) * 8) ≤ 70368744177664))
                  (cond (decide (((List.length (([] ++ []) ++ [(IntKind.wrap IntKind.i64 ((2 : Int) + y38.1)), (IntKind.wrap IntKind.i64 ((5 : Int) - (IntKind.wrap IntKind.i64 ((2 : Int) + y38.1))))])) + (List.length (List.drop (Int.toNat y43.1) (List.take (List.length b1_1) b1_1)))) ≤ 70368744177664))
                   (nx (m_spec_l25Draw_4 x6 b0_0 b0_1 ((([] ++ []) ++ [(IntKind.wrap IntKind.i64 ((1 : Int) + y45.1)), (IntKind.wrap IntKind.i64 ((1 : Int) + y46.1)), (IntKind.wrap IntKind.i64 ((IntKind.wrap IntKind.i64 (y44 - (IntKind.wrap IntKind.i64 ((1 : Int) + y45.1)))) + (IntKind.wrap IntKind.i64 ((1 : Int) + y46.1))))]) ++ []) ((([] ++ []) ++ [(IntKind.wrap IntKind.i64 ((2 : Int) + y38.1)), (IntKind.wrap IntKind.i64 ((5 : Int) - (IntKind.wrap IntKind.i64 ((2 : Int) + y38.1))))]) ++ (List.drop (Int.toNat y43.1) (List.take (List.length b1_1) b1_1))) y46.2.1 y46.2.2.1 y46.2.2.2))
                   (none))
                  (none))
                 (none))
                (none))
               (cond (decide ((0 : Int) ≤ y43.1))
                (cond (decide (y43.1 ≤ ((0 : Nat) : Int)))
                 (nx (m_spec_l25Draw_4 x6 b0_0 b0_1 ((([] ++ []) ++ [(IntKind.wrap IntKind.i64 ((1 : Int) + y45.1)), (IntKind.wrap IntKind.i64 ((1 : Int) + y46.1)), (IntKind.wrap IntKind.i64 ((IntKind.wrap IntKind.i64 (y44 - (IntKind.wrap IntKind.i64 ((1 : Int) + y45.1)))) + (IntKind.wrap IntKind.i64 ((1 : Int) + y46.1))))]) ++ []) ((([] ++ []) ++ [(IntKind.wrap IntKind.i64 ((2 : Int) + y38.1)), (IntKind.wrap IntKind.i64 ((5 : Int) - (IntKind.wrap IntKind.i64 ((2 : Int) + y38.1))))]) ++ []) y46.2.1 y46.2.2.1 y46.2.2.2))
                 (none))
                (none)))
              (none))
             (none)))
           (none))
          (none)))
        (none))
       (none))))))
  (hx.1 (d_spec_l25Draw_4_0 b0_0 b0_1 b1_0 b1_1 b2_0 b2_1 b2_2))
def t_spec_l25Draw_4 {R : Type} (nx : s_spec_l25Draw_4.T → Option R) (hx : exH R x_spec_l25Draw_4) (z : s_spec_l25Draw_4.T) : Option R := u_spec_l25Draw_4 nx hx z.1.2.2.2.1.1 z.2.1.1.1 z.2.1.1.2.1 z.2.1.2.1.1 z.2.1.2.1.2.1 z.2.1.2.2.1.1 z.2.1.2.2.1.2.1 z.2.1.2.2.1.2.2.1
theorem nat_spec_l25Draw_4 : Natural @t_spec_l25Draw_4 := fun R nx hx z => by
  show u_spec_l25Draw_4 nx hx z.1.2.2.2.1.1 z.2.1.1.1 z.2.1.1.2.1 z.2.1.2.1.1 z.2.1.2.1.2.1 z.2.1.2.2.1.1 z.2.1.2.2.1.2.1 z.2.1.2.2.1.2.2.1 = (u_spec_l25Draw_4 (fun y => some (.inl y)) (hIn x_spec_l25Draw_4 fun x => some (.inr x)) z.1.2.2.2.1.1 z.2.1.1.1 z.2.1.1.2.1 z.2.1.2.1.1 z.2.1.2.1.2.1 z.2.1.2.2.1.1 z.2.1.2.2.1.2.1 z.2.1.2.2.1.2.2.1).bind (goOn nx hx)
  unfold u_spec_l25Draw_4
  exact nat_cond (nat_bind fun _ => nat_bind fun _ => nat_bind fun _ => nat_cond (nat_bind fun _ => nat_cond (nat_cond (nat_cond (nat_cond (rfl) (rfl)) (rfl)) (rfl)) (rfl)) (nat_cond (nat_bind fun _ => nat_cond (nat_cond (nat_cond (nat_cond (rfl) (rfl)) (rfl)) (rfl)) (rfl)) (nat_cond (nat_bind fun _ => nat_cond (nat_cond (nat_cond (nat_cond (rfl) (rfl)) (rfl)) (rfl)) (rfl)) (nat_bind fun _ => nat_bind fun _ => nat_bind fun _ => nat_bind fun _ => nat_cond (nat_cond (nat_cond (nat_cond (nat_cond (nat_cond (nat_cond (nat_cond (nat_cond (nat_cond (nat_cond (nat_cond (nat_cond (nat_cond (nat_cond (nat_cond (nat_cond (nat_cond (nat_cond (nat_cond (nat_cond (nat_cond (nat_cond (nat_cond (rfl) (rfl)) (rfl)) (rfl)) (rfl)) (nat_cond (nat_cond (nat_cond (nat_cond (rfl) (rfl)) (rfl)) (rfl)) (rfl))) (rfl)) (rfl)) (rfl)) (rfl)) (nat_cond (nat_cond (nat_cond (nat_cond (nat_cond (nat_cond (nat_cond (nat_cond (nat_cond (rfl) (rfl)) (rfl)) (rfl)) (rfl)) (nat_cond (nat_cond (nat_cond (nat_cond (rfl) (rfl)) (rfl)) (rfl)) (rfl))) (rfl)) (rfl)) (rfl)) (rfl))) (rfl)) (rfl)) (rfl)) (rfl)) (rfl)) (rfl)) (nat_cond (nat_cond (nat_cond (nat_cond (nat_cond (nat_cond (nat_cond (nat_cond (nat_cond (nat_cond (nat_cond (nat_cond (rfl) (rfl)) (rfl)) (rfl)) (rfl)) (nat_cond (nat_cond (rfl) (rfl)) (rfl))) (rfl)) (rfl)) (rfl)) (rfl)) (nat_cond (nat_cond (nat_cond (nat_cond (nat_cond (nat_cond (nat_cond (nat_cond (nat_cond (rfl) (rfl)) (rfl)) (rfl)) (rfl)) (nat_cond (nat_cond (rfl) (rfl)) (rfl))) (rfl)) (rfl)) (rfl)) (rfl))) (rfl)) (rfl))) (rfl)) (rfl)) (rfl)) (rfl)) (rfl)) (rfl)) (nat_cond (nat_cond (nat_cond (nat_cond (nat_cond (nat_cond (nat_cond (nat_cond (nat_cond (nat_cond (nat_cond (nat_cond (nat_cond (nat_cond (nat_cond (nat_cond (nat_cond (nat_cond (nat_cond (rfl) (rfl)) (rfl)) (rfl)) (rfl)) (nat_cond (nat_cond (nat_cond (nat_cond (rfl) (rfl)) (rfl)) (rfl)) (rfl))) (rfl)) (rfl)) (rfl)) (rfl)) (nat_cond (nat_cond (nat_cond (nat_cond (nat_cond (nat_cond (nat_cond (rfl) (rfl)) (rfl)) (rfl)) (rfl)) (nat_cond (nat_cond (nat_cond (nat_cond (rfl) (rfl)) (rfl)) (rfl)) (rfl))) (rfl)) (rfl))) (rfl)) (rfl)) (rfl)) (rfl)) (rfl)) (rfl)) (nat_cond (nat_cond (nat_cond (nat_cond (nat_cond (nat_cond (nat_cond (nat_cond (nat_cond (nat_cond (nat_cond (nat_cond (rfl) (rfl)) (rfl)) (rfl)) (rfl)) (nat_cond (nat_cond (rfl) (rfl)) (rfl))) (rfl)) (rfl)) (rfl)) (rfl)) (nat_cond (nat_cond (nat_cond (nat_cond (nat_cond (nat_cond (nat_cond (rfl) (rfl)) (rfl)) (rfl)) (rfl)) (nat_cond (nat_cond (rfl) (rfl)) (rfl))) (rfl)) (rfl))) (rfl)) (rfl))) (rfl)) (rfl)))))) (rfl)
def w_spec_l25Draw_4 : s_spec_l25Draw_4.T → Option (exT x_spec_l25Draw_4) := wOf @t_spec_l25Draw_4
theorem wq_spec_l25Draw_4 x6 b0_0 b0_1 b1_0 b1_1 b2_0 b2_1 b2_2 : w_spec_l25Draw_4 (m_spec_l25Draw_4 x6 b0_0 b0_1 b1_0 b1_1 b2_0 b2_1 b2_2) = u_spec_l25Draw_4 w_spec_l25Draw_4 (hIn x_spec_l25Draw_4 some) x6 b0_0 b0_1 b1_0 b1_1 b2_0 b2_1 b2_2 := wOf_eq nat_spec_l25Draw_4 _
def lh_spec_l25Draw_4 : LoopHint := ⟨[0, 4, 5, 6], [4, 5, 145], [4, 5], [4, 5, 145]⟩
def h_spec_l25Draw : Hints RvB := ⟨fun k => match k with | 4 => lh_spec_l25Draw_4 | _ => ⟨[], [], [], []⟩, fun k => match k with | 4 => some (loopX s_spec_l25Draw_4 x_spec_l25Draw_4 w_spec_l25Draw_4) | _ => none⟩
theorem st_spec_l25Draw_4 (n : Nat) (z : s_spec_l25Draw_4.T) (k : Ex → Live → Option RvB) : loopN ⟨145, 146⟩ lh_spec_l25Draw_4 (den (tab C0 T_spec_l25Draw true) ⟨145, 146⟩ h_spec_l25Draw 1 (loopOf Try.f63 3)) (n + 1) (s_spec_l25Draw_4.enc z) k =
    t_spec_l25Draw_4 (fun y => loopN ⟨145, 146⟩ lh_spec_l25Draw_4 (den (tab C0 T_spec_l25Draw true) ⟨145, 146⟩ h_spec_l25Draw 1 (loopOf Try.f63 3)) n (s_spec_l25Draw_4.enc y) k) (hK k x_spec_l25Draw_4) z := by kernel_rfl
theorem hs_spec_l25Draw : HintsOk (tab C0 T_spec_l25Draw true) ⟨145, 146⟩ h_spec_l25Draw 1 (loops (codeOf Try.f63)) := by
  have hl : loops (codeOf Try.f63) = [loopOf Try.f63 3] := by kernel_rfl
  rw [hl]
  exact HintsOk.cons (n := 4) (lh := lh_spec_l25Draw_4) (S := loopX s_spec_l25Draw_4 x_spec_l25Draw_4 w_spec_l25Draw_4) (by kernel_rfl) rfl rfl (loopX_ok nat_spec_l25Draw_4 st_spec_l25Draw_4)
    (HintsOk.nil)
def t_spec_l25Draw {R : Type} (kx : ((List Int) × (List Int)) × (List Int × (Int × Int)) → Option R) (a0_0 : List Int) (a0_1 : Int) (a0_2 : Int) (a1 : Int) : Option R :=
  Option.bind (g_spec_l00Src_pick a0_0 a0_1 a0_2 (6 : Int)) fun y27 =>
  Option.bind (g_spec_l00Src_pick y27.2.1 y27.2.2.1 y27.2.2.2 a1) fun y28 =>
  Option.bind (w_spec_l25Draw_4 (m_spec_l25Draw_4 (IntKind.wrap IntKind.i64 ((1 : Int) + y28.1)) [] [] [(IntKind.wrap IntKind.i64 ((1 : Int) + y27.1))] [] y28.2.1 y28.2.2.1 y28.2.2.2)) (exC x_spec_l25Draw_4
  (fun e47 =>
   kx (((e47.2.1.2.1.1 : List Int), (e47.2.1.2.1.2.1 : List Int)), ((e47.2.1.2.2.1.1 : List Int), ((e47.2.1.2.2.1.2.1 : Int), (e47.2.1.2.2.1.2.2.1 : Int)))), ()))
def g_spec_l25Draw (a0_0 : List Int) (a0_1 : Int) (a0_2 : Int) (a1 : Int) : Option (((List Int) × (List Int)) × (List Int × (Int × Int))) := t_spec_l25Draw some a0_0 a0_1 a0_2 a1
theorem nat_spec_l25Draw {R} kx a0_0 a0_1 a0_2 a1 : @t_spec_l25Draw R kx a0_0 a0_1 a0_2 a1 = (g_spec_l25Draw a0_0 a0_1 a0_2 a1).bind kx := by
  unfold g_spec_l25Draw t_spec_l25Draw
  exact nat_bind fun _ => nat_bind fun _ => nat_exC ⟨fun _ => rfl, trivial⟩
abbrev en_spec_l25Draw : ((List Int) × (List Int)) × (List Int × (Int × Int)) → AV × List (List CV) := fun b => (.one ⟨true, [(.own (.int .i64) b.1.1), (.own (.int .i64) b.1.2)]⟩, [[(.sl (.int .u8) b.2.1), (.v (.int .i64 b.2.2.1)), (.v (.int .u64 b.2.2.2))]])
abbrev k_spec_l25Draw : Contract := .fb [.rw [(.sl (.int .u8)), (.int .i64), (.int .u64)], .val false (.int .i64)] (((List Int) × (List Int)) × (List Int × (Int × Int))) (fun z => g_spec_l25Draw z.1.1 z.1.2.1 z.1.2.2.1 z.2.1) en_spec_l25Draw
theorem so_spec_l25Draw : Sound C0 63 k_spec_l25Draw :=
  Sound.fb (e := true) (t := T_spec_l25Draw) (.cons so_spec_l00Src_pick (.nil)) mixed Try.func63 (by kernel_rfl) (by kernel_rfl) h_spec_l25Draw 1 hs_spec_l25Draw (fun z => (by kernel_rfl : _ = t_spec_l25Draw (fun b => some (en_spec_l25Draw b)) z.1.1 z.1.2.1 z.1.2.2.1 z.2.1).trans (nat_spec_l25Draw _ z.1.1 z.1.2.1 z.1.2.2.1 z.2.1))

/-! ### F64 (*spec.l00Src).one -/
def t_spec_l00Src_one {R : Type} (kx : Bool × (List Int × (Int × Int)) → Option R) (a0_0 : List Int) (a0_1 : Int) (a0_2 : Int) (a1 : Int) : Option R :=
  Option.bind (g_spec_l00Src_pick a0_0 a0_1 a0_2 a1) fun y60 =>
  kx ((y60.1 == (0 : Int)), y60.2)
def g_spec_l00Src_one (a0_0 : List Int) (a0_1 : Int) (a0_2 : Int) (a1 : Int) : Option (Bool × (List Int × (Int × Int))) := t_spec_l00Src_one some a0_0 a0_1 a0_2 a1
theorem nat_spec_l00Src_one {R} kx a0_0 a0_1 a0_2 a1 : @t_spec_l00Src_one R kx a0_0 a0_1 a0_2 a1 = (g_spec_l00Src_one a0_0 a0_1 a0_2 a1).bind kx := by
  unfold g_spec_l00Src_one t_spec_l00Src_one
  exact nat_bind fun _ => rfl
abbrev en_spec_l00Src_one : Bool × (List Int × (Int × Int)) → AV × List (List CV) := fun b => (.one ⟨false, [(.v (.bool b.1))]⟩, [[(.sl (.int .u8) b.2.1), (.v (.int .i64 b.2.2.1)), (.v (.int .u64 b.2.2.2))]])
abbrev k_spec_l00Src_one : Contract := .fb [.rw [(.sl (.int .u8)), (.int .i64), (.int .u64)], .val false (.int .i64)] (Bool × (List Int × (Int × Int))) (fun z => g_spec_l00Src_one z.1.1 z.1.2.1 z.1.2.2.1 z.2.1) en_spec_l00Src_one
theorem so_spec_l00Src_one : Sound C0 64 k_spec_l00Src_one :=
  Sound.fb (e := false) (.cons so_spec_l00Src_pick (.nil)) mixed Try.func64 (by kernel_rfl) (by kernel_rfl) noHints 1 noHints_ok (fun z => (by kernel_rfl : _ = t_spec_l00Src_one (fun b => some (en_spec_l00Src_one b)) z.1.1 z.1.2.1 z.1.2.2.1 z.2.1).trans (nat_spec_l00Src_one _ z.1.1 z.1.2.1 z.1.2.2.1 z.2.1))

/-! ### F66 (*spec.l00Src).among -/
def t_spec_l00Src_among {R : Type} (kx : Int × (List Int × (Int × Int)) → Option R) (a0_0 : List Int) (a0_1 : Int) (a0_2 : Int) (a1 : (List Int)) : Option R :=
  Option.bind (g_spec_l00Src_pick a0_0 a0_1 a0_2 (((List.length a1) : Nat) : Int)) fun y72 =>
  Option.bind (idx a1 y72.1) fun y73 =>
  kx (y73, y72.2)
def g_spec_l00Src_among (a0_0 : List Int) (a0_1 : Int) (a0_2 : Int) (a1 : (List Int)) : Option (Int × (List Int × (Int × Int))) := t_spec_l00Src_among some a0_0 a0_1 a0_2 a1
theorem nat_spec_l00Src_among {R} kx a0_0 a0_1 a0_2 a1 : @t_spec_l00Src_among R kx a0_0 a0_1 a0_2 a1 = (g_spec_l00Src_among a0_0 a0_1 a0_2 a1).bind kx := by
  unfold g_spec_l00Src_among t_spec_l00Src_among
  exact nat_bind fun _ => nat_bind fun _ => rfl
abbrev en_spec_l00Src_among : Int × (List Int × (Int × Int)) → AV × List (List CV) := fun b => (.one ⟨false, [(.v (.int .i64 b.1))]⟩, [[(.sl (.int .u8) b.2.1), (.v (.int .i64 b.2.2.1)), (.v (.int .u64 b.2.2.2))]])
abbrev k_spec_l00Src_among : Contract := .fb [.rw [(.sl (.int .u8)), (.int .i64), (.int .u64)], .val false (.slice (.int .i64))] (Int × (List Int × (Int × Int))) (fun z => g_spec_l00Src_among z.1.1 z.1.2.1 z.1.2.2.1 z.2.1) en_spec_l00Src_among
theorem so_spec_l00Src_among : Sound C0 66 k_spec_l00Src_among :=
  Sound.fb (e := false) (.cons so_spec_l00Src_pick (.nil)) mixed Try.func66 (by kernel_rfl) (by kernel_rfl) noHints 1 noHints_ok (fun z => (by kernel_rfl : _ = t_spec_l00Src_among (fun b => some (en_spec_l00Src_among b)) z.1.1 z.1.2.1 z.1.2.2.1 z.2.1).trans (nat_spec_l00Src_among _ z.1.1 z.1.2.1 z.1.2.2.1 z.2.1))

/-! ### F34 spec.l25Bent -/
def T_spec_l25Bent : List (FuncId × Contract) := [(63, k_spec_l25Draw), (64, k_spec_l00Src_one), (65, k_spec_l00Src_pick), (66, k_spec_l00Src_among)]
abbrev s_spec_l25Bent_10 : LS := ⟨[(false, [(.ptr 6 0)]), (false, [(.ptr 7 0)])], [(false, [(.own (.int .i64)), (.own (.int .i64))]), (false, [(.own (.int .i64)), (.own (.int .i64))]), (false, [(.sl (.int .u8)), (.int .i64), (.int .u64)])], []⟩
abbrev e_spec_l25Bent_10_0 : LS := ⟨[(false, [(.ptr 6 0)]), (false, [(.ptr 7 0)])], [(false, [(.own (.int .i64)), (.own (.int .i64))]), (false, [(.own (.int .i64)), (.own (.int .i64))]), (false, [(.sl (.int .u8)), (.int .i64), (.int .u64)])], []⟩
abbrev d_spec_l25Bent_10_0 (v0 : List Int) (v1 : List Int) (v2 : List Int) (v3 : List Int) (v4 : List Int) (v5 : Int) (v6 : Int) := (((((), ()), ((), ()), ()), ((v0, v1, ()), (v2, v3, ()), (v4, v5, v6, ()), ()), ()) : e_spec_l25Bent_10_0.T)
abbrev x_spec_l25Bent_10 : List (Ex × LS) := [(.exit 1, e_spec_l25Bent_10_0)]
abbrev m_spec_l25Bent_10 (b0_0 : List Int) (b0_1 : List Int) (b1_0 : List Int) (b1_1 : List Int) (b2_0 : List Int) (b2_1 : Int) (b2_2 : Int) := (((((), ()), ((), ()), ()), ((b0_0, b0_1, ()), (b1_0, b1_1, ()), (b2_0, b2_1, b2_2, ()), ()), ()) : s_spec_l25Bent_10.T)
def u_spec_l25Bent_10 {R : Type} (nx : s_spec_l25Bent_10.T → Option R) (hx : exH R x_spec_l25Bent_10) (b0_0 : List Int) (b0_1 : List Int) (b1_0 : List Int) (b1_1 : List Int) (b2_0 : List Int) (b2_1 : Int) (b2_2 : Int) : Option R :=
  cond (decide ((((List.length b1_0) : Nat) : Int) ≤ (14 : Int)))
  (cond (decide ((((List.length b1_0) + (List.length [(1 : Int)])) * 8) ≤ 70368744177664))
   (cond (decide (((List.length b1_0) + (List.length [(1 : Int)])) ≤ 70368744177664))
    (cond (decide ((((List.length b1_1) + (List.length [(2 : Int)])) * 8) ≤ 70368744177664))
     (cond (decide (((List.length b1_1) + (List.length [(2 : Int)])) ≤ 70368744177664))
      (nx (m_spec_l25Bent_10 b0_0 b0_1 (b1_0 ++ [(1 : Int)]) (b1_1 ++ [(2 : Int)]) b2_0 b2_1 b2_2))
      (none))
     (none))
    (none))
   (none))
  (hx.1 (d_spec_l25Bent_10_0 b0_0 b0_1 b1_0 b1_1 b2_0 b2_1 b2_2))
def t_spec_l25Bent_10 {R : Type} (nx : s_spec_l25Bent_10.T → Option R) (hx : exH R x_spec_l25Bent_10) (z : s_spec_l25Bent_10.T) : Option R := u_spec_l25Bent_10 nx hx z.2.1.1.1 z.2.1.1.2.1 z.2.1.2.1.1 z.2.1.2.1.2.1 z.2.1.2.2.1.1 z.2.1.2.2.1.2.1 z.2.1.2.2.1.2.2.1
theorem nat_spec_l25Bent_10 : Natural @t_spec_l25Bent_10 := fun R nx hx z => by
  show u_spec_l25Bent_10 nx hx z.2.1.1.1 z.2.1.1.2.1 z.2.1.2.1.1 z.2.1.2.1.2.1 z.2.1.2.2.1.1 z.2.1.2.2.1.2.1 z.2.1.2.2.1.2.2.1 = (u_spec_l25Bent_10 (fun y => some (.inl y)) (hIn x_spec_l25Bent_10 fun x => some (.inr x)) z.2.1.1.1 z.2.1.1.2.1 z.2.1.2.1.1 z.2.1.2.1.2.1 z.2.1.2.2.1.1 z.2.1.2.2.1.2.1 z.2.1.2.2.1.2.2.1).bind (goOn nx hx)
  unfold u_spec_l25Bent_10
  exact nat_cond (nat_cond (nat_cond (nat_cond (nat_cond (rfl) (rfl)) (rfl)) (rfl)) (rfl)) (rfl)
def w_spec_l25Bent_10 : s_spec_l25Bent_10.T → Option (exT x_spec_l25Bent_10) := wOf @t_spec_l25Bent_10
theorem wq_spec_l25Bent_10 b0_0 b0_1 b1_0 b1_1 b2_0 b2_1 b2_2 : w_spec_l25Bent_10 (m_spec_l25Bent_10 b0_0 b0_1 b1_0 b1_1 b2_0 b2_1 b2_2) = u_spec_l25Bent_10 w_spec_l25Bent_10 (hIn x_spec_l25Bent_10 some) b0_0 b0_1 b1_0 b1_1 b2_0 b2_1 b2_2 := wOf_eq nat_spec_l25Bent_10 _
def lh_spec_l25Bent_10 : LoopHint := ⟨[6, 7], [6, 7, 91], [6, 7], [6, 7, 91]⟩
def h_spec_l25Bent : Hints RvB := ⟨fun k => match k with | 10 => lh_spec_l25Bent_10 | _ => ⟨[], [], [], []⟩, fun k => match k with | 10 => some (loopX s_spec_l25Bent_10 x_spec_l25Bent_10 w_spec_l25Bent_10) | _ => none⟩
theorem st_spec_l25Bent_10 (n : Nat) (z : s_spec_l25Bent_10.T) (k : Ex → Live → Option RvB) : loopN ⟨91, 92⟩ lh_spec_l25Bent_10 (den (tab C0 T_spec_l25Bent) ⟨91, 92⟩ h_spec_l25Bent 1 (loopOf Try.f34 9)) (n + 1) (s_spec_l25Bent_10.enc z) k =
    t_spec_l25Bent_10 (fun y => loopN ⟨91, 92⟩ lh_spec_l25Bent_10 (den (tab C0 T_spec_l25Bent) ⟨91, 92⟩ h_spec_l25Bent 1 (loopOf Try.f34 9)) n (s_spec_l25Bent_10.enc y) k) (hK k x_spec_l25Bent_10) z := by kernel_rfl
theorem hs_spec_l25Bent : HintsOk (tab C0 T_spec_l25Bent) ⟨91, 92⟩ h_spec_l25Bent 1 (loops (codeOf Try.f34)) := by
  have hl : loops (codeOf Try.f34) = [loopOf Try.f34 9] := by kernel_rfl
  rw [hl]
  exact HintsOk.cons (n := 10) (lh := lh_spec_l25Bent_10) (S := loopX s_spec_l25Bent_10 x_spec_l25Bent_10 w_spec_l25Bent_10) (by kernel_rfl) rfl rfl (loopX_ok nat_spec_l25Bent_10 st_spec_l25Bent_10)
    (HintsOk.nil)
def t_spec_l25Bent {R : Type} (kx : ((List Int) × (List Int)) × (List Int × (Int × Int)) → Option R) (a0_0 : List Int) (a0_1 : Int) (a0_2 : Int) (a1 : Int) (a2 : Int) : Option R :=
  Option.bind (g_spec_l25Draw a0_0 a0_1 a0_2 a1) fun y55 =>
  Option.bind (g_spec_l00Src_one y55.2.1 y55.2.2.1 y55.2.2.2 (4 : Int)) fun y61 =>
  cond y61.1
  (cond (decide ((((List.length y55.1.2) : Nat) : Int) > (0 : Int)))
   (Option.bind (g_spec_l00Src_pick y61.2.1 y61.2.2.1 y61.2.2.2 (((List.length y55.1.2) : Nat) : Int)) fun y62 =>
    Option.bind (idx y55.1.2 y62.1) fun y63 =>
    Option.bind (idx y55.1.2 y62.1) fun _ =>
    Option.bind (g_spec_l00Src_one y62.2.1 y62.2.2.1 y62.2.2.2 a2) fun y65 =>
    cond (!y65.1)
    (kx ((y55.1.1, (List.set y55.1.2 (0 + (Int.toNat y62.1)) (IntKind.wrap IntKind.i64 ((5 : Int) - y63)))), y65.2))
    (Option.bind (g_spec_l00Src_pick y65.2.1 y65.2.2.1 y65.2.2.2 (((List.length y55.1.1) : Nat) : Int)) fun y66 =>
     Option.bind (g_spec_l00Src_pick y66.2.1 y66.2.2.1 y66.2.2.2 (4 : Int)) fun y67 =>
     cond (y67.1 == (0 : Int))
     (Option.bind (g_spec_l00Src_among y67.2.1 y67.2.2.1 y67.2.2.2 [(0 : Int), (-(1 : Int)), (1000 : Int), (1001 : Int)]) fun y74 =>
      Option.bind (idx y55.1.1 y66.1) fun _ =>
      kx (((List.set y55.1.1 (0 + (Int.toNat y66.1)) y74.1), (List.set y55.1.2 (0 + (Int.toNat y62.1)) (IntKind.wrap IntKind.i64 ((5 : Int) - y63)))), y74.2))
     (cond (y67.1 == (1 : Int))
      (cond (decide ((((List.length (List.set y55.1.2 (0 + (Int.toNat y62.1)) (IntKind.wrap IntKind.i64 ((5 : Int) - y63)))) + (List.length [(3 : Int)])) * 8) ≤ 70368744177664))
       (cond (decide (((List.length (List.set y55.1.2 (0 + (Int.toNat y62.1)) (IntKind.wrap IntKind.i64 ((5 : Int) - y63)))) + (List.length [(3 : Int)])) ≤ 70368744177664))
        (kx ((y55.1.1, ((List.set y55.1.2 (0 + (Int.toNat y62.1)) (IntKind.wrap IntKind.i64 ((5 : Int) - y63))) ++ [(3 : Int)])), y67.2))
        (none))
       (none))
      (cond (y67.1 == (2 : Int))
       (cond (decide ((((List.length (List.set y55.1.2 (0 + (Int.toNat y62.1)) (IntKind.wrap IntKind.i64 ((5 : Int) - y63)))) + (List.length [(4 : Int)])) * 8) ≤ 70368744177664))
        (cond (decide (((List.length (List.set y55.1.2 (0 + (Int.toNat y62.1)) (IntKind.wrap IntKind.i64 ((5 : Int) - y63)))) + (List.length [(4 : Int)])) ≤ 70368744177664))
         (cond (decide ((((List.length y55.1.1) + (List.length [(1 : Int)])) * 8) ≤ 70368744177664))
          (cond (decide (((List.length y55.1.1) + (List.length [(1 : Int)])) ≤ 70368744177664))
           (kx (((y55.1.1 ++ [(1 : Int)]), ((List.set y55.1.2 (0 + (Int.toNat y62.1)) (IntKind.wrap IntKind.i64 ((5 : Int) - y63))) ++ [(4 : Int)])), y67.2))
           (none))
          (none))
         (none))
        (none))
       (Option.bind (w_spec_l25Bent_10 (m_spec_l25Bent_10 [] [] y55.1.1 (List.set y55.1.2 (0 + (Int.toNat y62.1)) (IntKind.wrap IntKind.i64 ((5 : Int) - y63))) y67.2.1 y67.2.2.1 y67.2.2.2)) (exC x_spec_l25Bent_10
        (fun e83 =>
         kx (((e83.2.1.2.1.1 : List Int), (e83.2.1.2.1.2.1 : List Int)), ((e83.2.1.2.2.1.1 : List Int), ((e83.2.1.2.2.1.2.1 : Int), (e83.2.1.2.2.1.2.2.1 : Int)))), ())))))))
   (Option.bind (g_spec_l00Src_one y61.2.1 y61.2.2.1 y61.2.2.2 a2) fun y91 =>
    cond (!y91.1)
    (kx (y55.1, y91.2))
    (Option.bind (g_spec_l00Src_pick y91.2.1 y91.2.2.1 y91.2.2.2 (((List.length y55.1.1) : Nat) : Int)) fun y92 =>
     Option.bind (g_spec_l00Src_pick y92.2.1 y92.2.2.1 y92.2.2.2 (4 : Int)) fun y93 =>
     cond (y93.1 == (0 : Int))
     (Option.bind (g_spec_l00Src_among y93.2.1 y93.2.2.1 y93.2.2.2 [(0 : Int), (-(1 : Int)), (1000 : Int), (1001 : Int)]) fun y94 =>
      Option.bind (idx y55.1.1 y92.1) fun _ =>
      kx (((List.set y55.1.1 (0 + (Int.toNat y92.1)) y94.1), y55.1.2), y94.2))
     (cond (y93.1 == (1 : Int))
      (cond (decide ((((List.length y55.1.2) + (List.length [(3 : Int)])) * 8) ≤ 70368744177664))
       (cond (decide (((List.length y55.1.2) + (List.length [(3 : Int)])) ≤ 70368744177664))
        (kx ((y55.1.1, (y55.1.2 ++ [(3 : Int)])), y93.2))
        (none))
       (none))
      (cond (y93.1 == (2 : Int))
       (cond (decide ((((List.length y55.1.2) + (List.length [(4 : Int)])) * 8) ≤ 70368744177664))
        (cond (decide (((List.length y55.1.2) + (List.length [(4 : Int)])) ≤ 70368744177664))
         (cond (decide ((((List.length y55.1.1) + (List.length [(1 : Int)])) * 8) ≤ 70368744177664))
          (cond (decide (((List.length y55.1.1) + (List.length [(1 : Int)])) ≤ 70368744177664))
           (kx (((y55.1.1 ++ [(1 : Int)]), (y55.1.2 ++ [(4 : Int)])), y93.2))
           (none))
          (none))
         (none))
        (none))
       (Option.bind (w_spec_l25Bent_10 (m_spec_l25Bent_10 [] [] y55.1.1 y55.1.2 y93.2.1 y93.2.2.1 y93.2.2.2)) (exC x_spec_l25Bent_10
        (fun e96 =>
         kx (((e96.2.1.2.1.1 : List Int), (e96.2.1.2.1.2.1 : List Int)), ((e96.2.1.2.2.1.1 : List Int), ((e96.2.1.2.2.1.2.1 : Int), (e96.2.1.2.2.1.2.2.1 : Int)))), ()))))))))
  (Option.bind (g_spec_l00Src_one y61.2.1 y61.2.2.1 y61.2.2.2 a2) fun y104 =>
   cond (!y104.1)
   (kx (y55.1, y104.2))
   (Option.bind (g_spec_l00Src_pick y104.2.1 y104.2.2.1 y104.2.2.2 (((List.length y55.1.1) : Nat) : Int)) fun y105 =>
    Option.bind (g_spec_l00Src_pick y105.2.1 y105.2.2.1 y105.2.2.2 (4 : Int)) fun y106 =>
    cond (y106.1 == (0 : Int))
    (Option.bind (g_spec_l00Src_among y106.2.1 y106.2.2.1 y106.2.2.2 [(0 : Int), (-(1 : Int)), (1000 : Int), (1001 : Int)]) fun y107 =>
     Option.bind (idx y55.1.1 y105.1) fun _ =>
     kx (((List.set y55.1.1 (0 + (Int.toNat y105.1)) y107.1), y55.1.2), y107.2))
    (cond (y106.1 == (1 : Int))
     (cond (decide ((((List.length y55.1.2) + (List.length [(3 : Int)])) * 8) ≤ 70368744177664))
      (cond (decide (((List.length y55.1.2) + (List.length [(3 : Int)])) ≤ 70368744177664))
       (kx ((y55.1.1, (y55.1.2 ++ [(3 : Int)])), y106.2))
       (none))
      (none))
     (cond (y106.1 == (2 : Int))
      (cond (decide ((((List.length y55.1.2) + (List.length [(4 : Int)])) * 8) ≤ 70368744177664))
       (cond (decide (((List.length y55.1.2) + (List.length [(4 : Int)])) ≤ 70368744177664))
        (cond (decide ((((List.length y55.1.1) + (List.length [(1 : Int)])) * 8) ≤ 70368744177664))
         (cond (decide (((List.length y55.1.1) + (List.length [(1 : Int)])) ≤ 70368744177664))
          (kx (((y55.1.1 ++ [(1 : Int)]), (y55.1.2 ++ [(4 : Int)])), y106.2))
          (none))
         (none))
        (none))
       (none))
      (Option.bind (w_spec_l25Bent_10 (m_spec_l25Bent_10 [] [] y55.1.1 y55.1.2 y106.2.1 y106.2.2.1 y106.2.2.2)) (exC x_spec_l25Bent_10
       (fun e109 =>
        kx (((e109.2.1.2.1.1 : List Int), (e109.2.1.2.1.2.1 : List Int)), ((e109.2.1.2.2.1.1 : List Int), ((e109.2.1.2.2.1.2.1 : Int), (e109.2.1.2.2.1.2.2.1 : Int)))), ())))))))
def g_spec_l25Bent (a0_0 : List Int) (a0_1 : Int) (a0_2 : Int) (a1 : Int) (a2 : Int) : Option (((List Int) × (List Int)) × (List Int × (Int × Int))) := t_spec_l25Bent some a0_0 a0_1 a0_2 a1 a2
theorem nat_spec_l25Bent {R} kx a0_0 a0_1 a0_2 a1 a2 : @t_spec_l25Bent R kx a0_0 a0_1 a0_2 a1 a2 = (g_spec_l25Bent a0_0 a0_1 a0_2 a1 a2).bind kx := by
  unfold g_spec_l25Bent t_spec_l25Bent
  exact nat_bind fun _ => nat_bind fun _ => nat_cond (nat_cond (nat_bind fun _ => nat_bind fun _ => nat_bind fun _ => nat_bind fun _ => nat_cond (rfl) (nat_bind fun _ => nat_bind fun _ => nat_cond (nat_bind fun _ => nat_bind fun _ => rfl) (nat_cond (nat_cond (nat_cond (rfl) (rfl)) (rfl)) (nat_cond (nat_cond (nat_cond (nat_cond (nat_cond (rfl) (rfl)) (rfl)) (rfl)) (rfl)) (nat_exC ⟨fun _ => rfl, trivial⟩))))) (nat_bind fun _ => nat_cond (rfl) (nat_bind fun _ => nat_bind fun _ => nat_cond (nat_bind fun _ => nat_bind fun _ => rfl) (nat_cond (nat_cond (nat_cond (rfl) (rfl)) (rfl)) (nat_cond (nat_cond (nat_cond (nat_cond (nat_cond (rfl) (rfl)) (rfl)) (rfl)) (rfl)) (nat_exC ⟨fun _ => rfl, trivial⟩)))))) (nat_bind fun _ => nat_cond (rfl) (nat_bind fun _ => nat_bind fun _ => nat_cond (nat_bind fun _ => nat_bind fun _ => rfl) (nat_cond (nat_cond (nat_cond (rfl) (rfl)) (rfl)) (nat_cond (nat_cond (nat_cond (nat_cond (nat_cond (rfl) (rfl)) (rfl)) (rfl)) (rfl)) (nat_exC ⟨fun _ => rfl, trivial⟩)))))
abbrev en_spec_l25Bent : ((List Int) × (List Int)) × (List Int × (Int × Int)) → AV × List (List CV) := fun b => (.one ⟨true, [(.own (.int .i64) b.1.1), (.own (.int .i64) b.1.2)]⟩, [[(.sl (.int .u8) b.2.1), (.v (.int .i64 b.2.2.1)), (.v (.int .u64 b.2.2.2))]])
abbrev k_spec_l25Bent : Contract := .fb [.rw [(.sl (.int .u8)), (.int .i64), (.int .u64)], .val false (.int .i64), .val false (.int .i64)] (((List Int) × (List Int)) × (List Int × (Int × Int))) (fun z => g_spec_l25Bent z.1.1 z.1.2.1 z.1.2.2.1 z.2.1 z.2.2.1) en_spec_l25Bent
theorem so_spec_l25Bent : Sound C0 34 k_spec_l25Bent :=
  Sound.fb (e := false) (t := T_spec_l25Bent) (.cons so_spec_l25Draw (.cons so_spec_l00Src_one (.cons so_spec_l00Src_pick (.cons so_spec_l00Src_among (.nil))))) mixed Try.func34 (by kernel_rfl) (by kernel_rfl) h_spec_l25Bent 1 hs_spec_l25Bent (fun z => (by kernel_rfl : _ = t_spec_l25Bent (fun b => some (en_spec_l25Bent b)) z.1.1 z.1.2.1 z.1.2.2.1 z.2.1 z.2.2.1).trans (nat_spec_l25Bent _ z.1.1 z.1.2.1 z.1.2.2.1 z.2.1 z.2.2.1))

/-! ### F8 spec.DrawReduceStrip -/
def t_spec_DrawReduceStrip {R : Type} (kx : ((List Int) × (List Int)) → Option R) (a0 : (List Int)) : Option R :=
  Option.bind (g_spec_l00From a0) fun y7 =>
  Option.bind (g_spec_l25Bent y7.1 y7.2.1 y7.2.2 (14 : Int) (12 : Int)) fun y117 =>
  kx y117.1
def g_spec_DrawReduceStrip (a0 : (List Int)) : Option (((List Int) × (List Int))) := t_spec_DrawReduceStrip some a0
theorem nat_spec_DrawReduceStrip {R} kx a0 : @t_spec_DrawReduceStrip R kx a0 = (g_spec_DrawReduceStrip a0).bind kx := by
  unfold g_spec_DrawReduceStrip t_spec_DrawReduceStrip
  exact nat_bind fun _ => nat_bind fun _ => rfl
abbrev k_spec_DrawReduceStrip : Contract := .fx [.val false (.slice (.int .u8))] (((List Int) × (List Int))) (fun z => g_spec_DrawReduceStrip z.1) (fun b => (.one ⟨true, [(.own (.int .i64) b.1), (.own (.int .i64) b.2)]⟩, []))
theorem so_spec_DrawReduceStrip : Sound C0 8 k_spec_DrawReduceStrip :=
  Sound.fx (e := false) (.cons so_spec_l00From (.cons so_spec_l25Bent (.nil))) mixed Try.func8 (by kernel_rfl) (by kernel_rfl) noHints 1 noHints_ok (fun z => (by kernel_rfl : _ = t_spec_DrawReduceStrip (fun b => some (k_spec_DrawReduceStrip.enc b)) z.1).trans (nat_spec_DrawReduceStrip _ z.1))

/-! ### F72 impl.length[int64] -/
def t_impl_length_int64 {R : Type} (kx : Int → Option R) (a0 : (List Int)) : Option R :=
  kx (((List.length a0) : Nat) : Int)
def g_impl_length_int64 (a0 : (List Int)) : Option (Int) := t_impl_length_int64 some a0
theorem nat_impl_length_int64 {R} kx a0 : @t_impl_length_int64 R kx a0 = (g_impl_length_int64 a0).bind kx := by
  unfold g_impl_length_int64 t_impl_length_int64
  exact rfl
abbrev k_impl_length_int64 : Contract := .fx [.val false (.slice (.int .i64))] (Int) (fun z => g_impl_length_int64 z.1) (fun b => (.one ⟨false, [(.v (.int .i64 b))]⟩, []))
theorem so_impl_length_int64 : Sound C0 72 k_impl_length_int64 :=
  Sound.fx (e := false) (.nil) mixed Try.func72 (by kernel_rfl) (by kernel_rfl) noHints 1 noHints_ok (fun z => (by kernel_rfl : _ = t_impl_length_int64 (fun b => some (k_impl_length_int64.enc b)) z.1).trans (nat_impl_length_int64 _ z.1))

/-! ### F45 impl.within -/
def t_impl_within {R : Type} (kx : Bool → Option R) (a0 : Int) (a1 : Int) (a2 : Int) : Option R :=
  cond (decide (a0 ≥ a1))
  (kx (decide (a0 ≤ a2)))
  (kx Bool.false)
def g_impl_within (a0 : Int) (a1 : Int) (a2 : Int) : Option (Bool) := t_impl_within some a0 a1 a2
theorem nat_impl_within {R} kx a0 a1 a2 : @t_impl_within R kx a0 a1 a2 = (g_impl_within a0 a1 a2).bind kx := by
  unfold g_impl_within t_impl_within
  exact nat_cond (rfl) (rfl)
abbrev k_impl_within : Contract := .fx [.val false (.int .i64), .val false (.int .i64), .val false (.int .i64)] (Bool) (fun z => g_impl_within z.1 z.2.1 z.2.2.1) (fun b => (.one ⟨false, [(.v (.bool b))]⟩, []))
theorem so_impl_within : Sound C0 45 k_impl_within :=
  Sound.fx (e := false) (.nil) mixed Try.func45 (by kernel_rfl) (by kernel_rfl) noHints 1 noHints_ok (fun z => (by kernel_rfl : _ = t_impl_within (fun b => some (k_impl_within.enc b)) z.1 z.2.1 z.2.2.1).trans (nat_impl_within _ z.1 z.2.1 z.2.2.1))

/-! ### F102 impl.areLengths$1 -/
def t_impl_areLengths_1 {R : Type} (kx : Bool → Option R) (a0 : Int) : Option R :=
  Option.bind (g_impl_within a0 (1 : Int) (1000 : Int)) fun y135 =>
  kx (!y135)
def g_impl_areLengths_1 (a0 : Int) : Option (Bool) := t_impl_areLengths_1 some a0
theorem nat_impl_areLengths_1 {R} kx a0 : @t_impl_areLengths_1 R kx a0 = (g_impl_areLengths_1 a0).bind kx := by
  unfold g_impl_areLengths_1 t_impl_areLengths_1
  exact nat_bind fun _ => rfl
abbrev k_impl_areLengths_1 : Contract := .fx [.val false (.int .i64)] (Bool) (fun z => g_impl_areLengths_1 z.1) (fun b => (.one ⟨false, [(.v (.bool b))]⟩, []))
theorem so_impl_areLengths_1 : Sound C0 102 k_impl_areLengths_1 :=
  Sound.fx (e := false) (.cons so_impl_within (.nil)) mixed Try.func102 (by kernel_rfl) (by kernel_rfl) noHints 1 noHints_ok (fun z => (by kernel_rfl : _ = t_impl_areLengths_1 (fun b => some (k_impl_areLengths_1.enc b)) z.1).trans (nat_impl_areLengths_1 _ z.1))

/-! ### F103 slices.IndexFunc[[]int64,int64] -/
def T_slices_IndexFunc_Sint64_int64__impl_areLengths_1 : List (FuncId × Contract) := [(102, k_impl_areLengths_1)]
abbrev s_slices_IndexFunc_Sint64_int64__impl_areLengths_1_3 : LS := ⟨[(false, [(.sl (.int .i64))]), (false, [(.fn 102 [])]), (false, [(.int .i64)]), (false, [(.int .i64)])], [], []⟩
abbrev e_slices_IndexFunc_Sint64_int64__impl_areLengths_1_3_0 : LS := ⟨[(false, [(.int .i64)])], [], []⟩
abbrev d_slices_IndexFunc_Sint64_int64__impl_areLengths_1_3_0 (v0 : Int) := ((((v0, ()), ()), (), ()) : e_slices_IndexFunc_Sint64_int64__impl_areLengths_1_3_0.T)
abbrev e_slices_IndexFunc_Sint64_int64__impl_areLengths_1_3_1 : LS := ⟨[(false, [.undef])], [], []⟩
abbrev d_slices_IndexFunc_Sint64_int64__impl_areLengths_1_3_1 := (((((), ()), ()), (), ()) : e_slices_IndexFunc_Sint64_int64__impl_areLengths_1_3_1.T)
abbrev x_slices_IndexFunc_Sint64_int64__impl_areLengths_1_3 : List (Ex × LS) := [(.ret, e_slices_IndexFunc_Sint64_int64__impl_areLengths_1_3_0), (.exit 0, e_slices_IndexFunc_Sint64_int64__impl_areLengths_1_3_1)]
abbrev m_slices_IndexFunc_Sint64_int64__impl_areLengths_1_3 (x0 : List Int) (x7 : Int) (x8 : Int) := ((((x0, ()), ((), ()), (x7, ()), (x8, ()), ()), (), ()) : s_slices_IndexFunc_Sint64_int64__impl_areLengths_1_3.T)
def u_slices_IndexFunc_Sint64_int64__impl_areLengths_1_3 {R : Type} (nx : s_slices_IndexFunc_Sint64_int64__impl_areLengths_1_3.T → Option R) (hx : exH R x_slices_IndexFunc_Sint64_int64__impl_areLengths_1_3) (x0 : List Int) (x7 : Int) (x8 : Int) : Option R :=
  cond (decide (x8 < x7))
  (Option.bind (idx x0 x8) fun y133 =>
   Option.bind (g_impl_areLengths_1 y133) fun y136 =>
   cond y136
   (hx.1 (d_slices_IndexFunc_Sint64_int64__impl_areLengths_1_3_0 x8))
   (nx (m_slices_IndexFunc_Sint64_int64__impl_areLengths_1_3 x0 x7 (IntKind.wrap IntKind.i64 (x8 + (1 : Int))))))
  (hx.2.1 (d_slices_IndexFunc_Sint64_int64__impl_areLengths_1_3_1))
def t_slices_IndexFunc_Sint64_int64__impl_areLengths_1_3 {R : Type} (nx : s_slices_IndexFunc_Sint64_int64__impl_areLengths_1_3.T → Option R) (hx : exH R x_slices_IndexFunc_Sint64_int64__impl_areLengths_1_3) (z : s_slices_IndexFunc_Sint64_int64__impl_areLengths_1_3.T) : Option R := u_slices_IndexFunc_Sint64_int64__impl_areLengths_1_3 nx hx z.1.1.1 z.1.2.2.1.1 z.1.2.2.2.1.1
theorem nat_slices_IndexFunc_Sint64_int64__impl_areLengths_1_3 : Natural @t_slices_IndexFunc_Sint64_int64__impl_areLengths_1_3 := fun R nx hx z => by
  show u_slices_IndexFunc_Sint64_int64__impl_areLengths_1_3 nx hx z.1.1.1 z.1.2.2.1.1 z.1.2.2.2.1.1 = (u_slices_IndexFunc_Sint64_int64__impl_areLengths_1_3 (fun y => some (.inl y)) (hIn x_slices_IndexFunc_Sint64_int64__impl_areLengths_1_3 fun x => some (.inr x)) z.1.1.1 z.1.2.2.1.1 z.1.2.2.2.1.1).bind (goOn nx hx)
  unfold u_slices_IndexFunc_Sint64_int64__impl_areLengths_1_3
  exact nat_cond (nat_bind fun _ => nat_bind fun _ => nat_cond (rfl) (rfl)) (rfl)
def w_slices_IndexFunc_Sint64_int64__impl_areLengths_1_3 : s_slices_IndexFunc_Sint64_int64__impl_areLengths_1_3.T → Option (exT x_slices_IndexFunc_Sint64_int64__impl_areLengths_1_3) := wOf @t_slices_IndexFunc_Sint64_int64__impl_areLengths_1_3
theorem wq_slices_IndexFunc_Sint64_int64__impl_areLengths_1_3 x0 x7 x8 : w_slices_IndexFunc_Sint64_int64__impl_areLengths_1_3 (m_slices_IndexFunc_Sint64_int64__impl_areLengths_1_3 x0 x7 x8) = u_slices_IndexFunc_Sint64_int64__impl_areLengths_1_3 w_slices_IndexFunc_Sint64_int64__impl_areLengths_1_3 (hIn x_slices_IndexFunc_Sint64_int64__impl_areLengths_1_3 some) x0 x7 x8 := wOf_eq nat_slices_IndexFunc_Sint64_int64__impl_areLengths_1_3 _
def lh_slices_IndexFunc_Sint64_int64__impl_areLengths_1_3 : LoopHint := ⟨[0, 1, 7, 8], [], [4], []⟩
def h_slices_IndexFunc_Sint64_int64__impl_areLengths_1 : Hints Rv := ⟨fun k => match k with | 3 => lh_slices_IndexFunc_Sint64_int64__impl_areLengths_1_3 | _ => ⟨[], [], [], []⟩, fun k => match k with | 3 => some (loopX s_slices_IndexFunc_Sint64_int64__impl_areLengths_1_3 x_slices_IndexFunc_Sint64_int64__impl_areLengths_1_3 w_slices_IndexFunc_Sint64_int64__impl_areLengths_1_3) | _ => none⟩
theorem st_slices_IndexFunc_Sint64_int64__impl_areLengths_1_3 (n : Nat) (z : s_slices_IndexFunc_Sint64_int64__impl_areLengths_1_3.T) (k : Ex → Live → Option Rv) : loopN ⟨19, 19⟩ lh_slices_IndexFunc_Sint64_int64__impl_areLengths_1_3 (den (tab C0 T_slices_IndexFunc_Sint64_int64__impl_areLengths_1) ⟨19, 19⟩ h_slices_IndexFunc_Sint64_int64__impl_areLengths_1 1 (loopOf Try.f103 2)) (n + 1) (s_slices_IndexFunc_Sint64_int64__impl_areLengths_1_3.enc z) k =
    t_slices_IndexFunc_Sint64_int64__impl_areLengths_1_3 (fun y => loopN ⟨19, 19⟩ lh_slices_IndexFunc_Sint64_int64__impl_areLengths_1_3 (den (tab C0 T_slices_IndexFunc_Sint64_int64__impl_areLengths_1) ⟨19, 19⟩ h_slices_IndexFunc_Sint64_int64__impl_areLengths_1 1 (loopOf Try.f103 2)) n (s_slices_IndexFunc_Sint64_int64__impl_areLengths_1_3.enc y) k) (hK k x_slices_IndexFunc_Sint64_int64__impl_areLengths_1_3) z := by kernel_rfl
theorem hs_slices_IndexFunc_Sint64_int64__impl_areLengths_1 : HintsOk (tab C0 T_slices_IndexFunc_Sint64_int64__impl_areLengths_1) ⟨19, 19⟩ h_slices_IndexFunc_Sint64_int64__impl_areLengths_1 1 (loops (codeOf Try.f103)) := by
  have hl : loops (codeOf Try.f103) = [loopOf Try.f103 2] := by kernel_rfl
  rw [hl]
  exact HintsOk.cons (n := 3) (lh := lh_slices_IndexFunc_Sint64_int64__impl_areLengths_1_3) (S := loopX s_slices_IndexFunc_Sint64_int64__impl_areLengths_1_3 x_slices_IndexFunc_Sint64_int64__impl_areLengths_1_3 w_slices_IndexFunc_Sint64_int64__impl_areLengths_1_3) (by kernel_rfl) rfl rfl (loopX_ok nat_slices_IndexFunc_Sint64_int64__impl_areLengths_1_3 st_slices_IndexFunc_Sint64_int64__impl_areLengths_1_3)
    (HintsOk.nil)
def t_slices_IndexFunc_Sint64_int64__impl_areLengths_1 {R : Type} (kx : Int → Option R) (a0 : (List Int)) : Option R :=
  Option.bind (w_slices_IndexFunc_Sint64_int64__impl_areLengths_1_3 (m_slices_IndexFunc_Sint64_int64__impl_areLengths_1_3 a0 (((List.length a0) : Nat) : Int) (0 : Int))) (exC x_slices_IndexFunc_Sint64_int64__impl_areLengths_1_3
  (fun e137 =>
   kx (e137.1.1.1 : Int), fun _ =>
   kx (-(1 : Int)), ()))
def g_slices_IndexFunc_Sint64_int64__impl_areLengths_1 (a0 : (List Int)) : Option (Int) := t_slices_IndexFunc_Sint64_int64__impl_areLengths_1 some a0
theorem nat_slices_IndexFunc_Sint64_int64__impl_areLengths_1 {R} kx a0 : @t_slices_IndexFunc_Sint64_int64__impl_areLengths_1 R kx a0 = (g_slices_IndexFunc_Sint64_int64__impl_areLengths_1 a0).bind kx := by
  unfold g_slices_IndexFunc_Sint64_int64__impl_areLengths_1 t_slices_IndexFunc_Sint64_int64__impl_areLengths_1
  exact nat_exC ⟨fun _ => rfl, fun _ => rfl, trivial⟩
abbrev k_slices_IndexFunc_Sint64_int64__impl_areLengths_1 : Contract := .fx [.val false (.slice (.int .i64)), .clo 102 []] (Int) (fun z => g_slices_IndexFunc_Sint64_int64__impl_areLengths_1 z.1) (fun b => (.one ⟨false, [(.v (.int .i64 b))]⟩, []))
theorem so_slices_IndexFunc_Sint64_int64__impl_areLengths_1 : Sound C0 103 k_slices_IndexFunc_Sint64_int64__impl_areLengths_1 :=
  Sound.fx (e := false) (t := T_slices_IndexFunc_Sint64_int64__impl_areLengths_1) (.cons so_impl_areLengths_1 (.nil)) mixed Try.func103 (by kernel_rfl) (by kernel_rfl) h_slices_IndexFunc_Sint64_int64__impl_areLengths_1 1 hs_slices_IndexFunc_Sint64_int64__impl_areLengths_1 (fun z => (by kernel_rfl : _ = t_slices_IndexFunc_Sint64_int64__impl_areLengths_1 (fun b => some (k_slices_IndexFunc_Sint64_int64__impl_areLengths_1.enc b)) z.1).trans (nat_slices_IndexFunc_Sint64_int64__impl_areLengths_1 _ z.1))

/-! ### F68 slices.ContainsFunc[[]int64,int64] -/
def t_slices_ContainsFunc_Sint64_int64__impl_areLengths_1 {R : Type} (kx : Bool → Option R) (a0 : (List Int)) : Option R :=
  Option.bind (g_slices_IndexFunc_Sint64_int64__impl_areLengths_1 a0) fun y140 =>
  kx (decide (y140 ≥ (0 : Int)))
def g_slices_ContainsFunc_Sint64_int64__impl_areLengths_1 (a0 : (List Int)) : Option (Bool) := t_slices_ContainsFunc_Sint64_int64__impl_areLengths_1 some a0
theorem nat_slices_ContainsFunc_Sint64_int64__impl_areLengths_1 {R} kx a0 : @t_slices_ContainsFunc_Sint64_int64__impl_areLengths_1 R kx a0 = (g_slices_ContainsFunc_Sint64_int64__impl_areLengths_1 a0).bind kx := by
  unfold g_slices_ContainsFunc_Sint64_int64__impl_areLengths_1 t_slices_ContainsFunc_Sint64_int64__impl_areLengths_1
  exact nat_bind fun _ => rfl
abbrev k_slices_ContainsFunc_Sint64_int64__impl_areLengths_1 : Contract := .fx [.val false (.slice (.int .i64)), .clo 102 []] (Bool) (fun z => g_slices_ContainsFunc_Sint64_int64__impl_areLengths_1 z.1) (fun b => (.one ⟨false, [(.v (.bool b))]⟩, []))
theorem so_slices_ContainsFunc_Sint64_int64__impl_areLengths_1 : Sound C0 68 k_slices_ContainsFunc_Sint64_int64__impl_areLengths_1 :=
  Sound.fx (e := false) (.cons so_slices_IndexFunc_Sint64_int64__impl_areLengths_1 (.nil)) mixed Try.func68 (by kernel_rfl) (by kernel_rfl) noHints 1 noHints_ok (fun z => (by kernel_rfl : _ = t_slices_ContainsFunc_Sint64_int64__impl_areLengths_1 (fun b => some (k_slices_ContainsFunc_Sint64_int64__impl_areLengths_1.enc b)) z.1).trans (nat_slices_ContainsFunc_Sint64_int64__impl_areLengths_1 _ z.1))

/-! ### F92 impl.sumOf -/
def T_impl_sumOf : List (FuncId × Contract) := []
abbrev s_impl_sumOf_4 : LS := ⟨[(false, [(.int .i64)]), (false, [(.sl (.int .i64))]), (false, [(.int .i64)]), (false, [(.int .i64)])], [], []⟩
abbrev e_impl_sumOf_4_0 : LS := ⟨[(false, [(.int .i64)])], [], []⟩
abbrev d_impl_sumOf_4_0 (v0 : Int) := ((((v0, ()), ()), (), ()) : e_impl_sumOf_4_0.T)
abbrev x_impl_sumOf_4 : List (Ex × LS) := [(.exit 0, e_impl_sumOf_4_0)]
abbrev m_impl_sumOf_4 (x3 : Int) (x6 : List Int) (x7 : Int) (x8 : Int) := ((((x3, ()), (x6, ()), (x7, ()), (x8, ()), ()), (), ()) : s_impl_sumOf_4.T)
def u_impl_sumOf_4 {R : Type} (nx : s_impl_sumOf_4.T → Option R) (hx : exH R x_impl_sumOf_4) (x3 : Int) (x6 : List Int) (x7 : Int) (x8 : Int) : Option R :=
  cond (decide (x8 < x7))
  (Option.bind (idx x6 x8) fun y147 =>
   nx (m_impl_sumOf_4 (IntKind.wrap IntKind.i64 (x3 + y147)) x6 x7 (IntKind.wrap IntKind.i64 (x8 + (1 : Int)))))
  (hx.1 (d_impl_sumOf_4_0 x3))
def t_impl_sumOf_4 {R : Type} (nx : s_impl_sumOf_4.T → Option R) (hx : exH R x_impl_sumOf_4) (z : s_impl_sumOf_4.T) : Option R := u_impl_sumOf_4 nx hx z.1.1.1 z.1.2.1.1 z.1.2.2.1.1 z.1.2.2.2.1.1
theorem nat_impl_sumOf_4 : Natural @t_impl_sumOf_4 := fun R nx hx z => by
  show u_impl_sumOf_4 nx hx z.1.1.1 z.1.2.1.1 z.1.2.2.1.1 z.1.2.2.2.1.1 = (u_impl_sumOf_4 (fun y => some (.inl y)) (hIn x_impl_sumOf_4 fun x => some (.inr x)) z.1.1.1 z.1.2.1.1 z.1.2.2.1.1 z.1.2.2.2.1.1).bind (goOn nx hx)
  unfold u_impl_sumOf_4
  exact nat_cond (nat_bind fun _ => rfl) (rfl)
def w_impl_sumOf_4 : s_impl_sumOf_4.T → Option (exT x_impl_sumOf_4) := wOf @t_impl_sumOf_4
theorem wq_impl_sumOf_4 x3 x6 x7 x8 : w_impl_sumOf_4 (m_impl_sumOf_4 x3 x6 x7 x8) = u_impl_sumOf_4 w_impl_sumOf_4 (hIn x_impl_sumOf_4 some) x3 x6 x7 x8 := wOf_eq nat_impl_sumOf_4 _
def lh_impl_sumOf_4 : LoopHint := ⟨[3, 6, 7, 8], [], [3], []⟩
def h_impl_sumOf : Hints Rv := ⟨fun k => match k with | 4 => lh_impl_sumOf_4 | _ => ⟨[], [], [], []⟩, fun k => match k with | 4 => some (loopX s_impl_sumOf_4 x_impl_sumOf_4 w_impl_sumOf_4) | _ => none⟩
theorem st_impl_sumOf_4 (n : Nat) (z : s_impl_sumOf_4.T) (k : Ex → Live → Option Rv) : loopN ⟨17, 17⟩ lh_impl_sumOf_4 (den (tab C0 T_impl_sumOf) ⟨17, 17⟩ h_impl_sumOf 1 (loopOf Try.f92 3)) (n + 1) (s_impl_sumOf_4.enc z) k =
    t_impl_sumOf_4 (fun y => loopN ⟨17, 17⟩ lh_impl_sumOf_4 (den (tab C0 T_impl_sumOf) ⟨17, 17⟩ h_impl_sumOf 1 (loopOf Try.f92 3)) n (s_impl_sumOf_4.enc y) k) (hK k x_impl_sumOf_4) z := by kernel_rfl
theorem hs_impl_sumOf : HintsOk (tab C0 T_impl_sumOf) ⟨17, 17⟩ h_impl_sumOf 1 (loops (codeOf Try.f92)) := by
  have hl : loops (codeOf Try.f92) = [loopOf Try.f92 3] := by kernel_rfl
  rw [hl]
  exact HintsOk.cons (n := 4) (lh := lh_impl_sumOf_4) (S := loopX s_impl_sumOf_4 x_impl_sumOf_4 w_impl_sumOf_4) (by kernel_rfl) rfl rfl (loopX_ok nat_impl_sumOf_4 st_impl_sumOf_4)
    (HintsOk.nil)
def t_impl_sumOf {R : Type} (kx : Int → Option R) (a0 : (List Int)) : Option R :=
  Option.bind (w_impl_sumOf_4 (m_impl_sumOf_4 (0 : Int) a0 (((List.length a0) : Nat) : Int) (0 : Int))) (exC x_impl_sumOf_4
  (fun e148 =>
   kx (e148.1.1.1 : Int), ()))
def g_impl_sumOf (a0 : (List Int)) : Option (Int) := t_impl_sumOf some a0
theorem nat_impl_sumOf {R} kx a0 : @t_impl_sumOf R kx a0 = (g_impl_sumOf a0).bind kx := by
  unfold g_impl_sumOf t_impl_sumOf
  exact nat_exC ⟨fun _ => rfl, trivial⟩
abbrev k_impl_sumOf : Contract := .fx [.val false (.slice (.int .i64))] (Int) (fun z => g_impl_sumOf z.1) (fun b => (.one ⟨false, [(.v (.int .i64 b))]⟩, []))
theorem so_impl_sumOf : Sound C0 92 k_impl_sumOf :=
  Sound.fx (e := false) (t := T_impl_sumOf) (.nil) mixed Try.func92 (by kernel_rfl) (by kernel_rfl) h_impl_sumOf 1 hs_impl_sumOf (fun z => (by kernel_rfl : _ = t_impl_sumOf (fun b => some (k_impl_sumOf.enc b)) z.1).trans (nat_impl_sumOf _ z.1))

/-! ### F67 impl.areLengths -/
def t_impl_areLengths {R : Type} (kx : Bool → Option R) (a0 : (List Int)) : Option R :=
  Option.bind (g_impl_length_int64 a0) fun y123 =>
  Option.bind (g_impl_within y123 (1 : Int) (14 : Int)) fun y127 =>
  cond y127
  (Option.bind (g_slices_ContainsFunc_Sint64_int64__impl_areLengths_1 a0) fun y141 =>
   cond (!y141)
   (Option.bind (g_impl_sumOf a0) fun y150 =>
    kx (decide (y150 ≤ (1000 : Int))))
   (kx Bool.false))
  (kx Bool.false)
def g_impl_areLengths (a0 : (List Int)) : Option (Bool) := t_impl_areLengths some a0
theorem nat_impl_areLengths {R} kx a0 : @t_impl_areLengths R kx a0 = (g_impl_areLengths a0).bind kx := by
  unfold g_impl_areLengths t_impl_areLengths
  exact nat_bind fun _ => nat_bind fun _ => nat_cond (nat_bind fun _ => nat_cond (nat_bind fun _ => rfl) (rfl)) (rfl)
abbrev k_impl_areLengths : Contract := .fx [.val false (.slice (.int .i64))] (Bool) (fun z => g_impl_areLengths z.1) (fun b => (.one ⟨false, [(.v (.bool b))]⟩, []))
theorem so_impl_areLengths : Sound C0 67 k_impl_areLengths :=
  Sound.fx (e := false) (.cons so_impl_length_int64 (.cons so_impl_within (.cons so_slices_ContainsFunc_Sint64_int64__impl_areLengths_1 (.cons so_impl_sumOf (.nil))))) mixed Try.func67 (by kernel_rfl) (by kernel_rfl) noHints 1 noHints_ok (fun z => (by kernel_rfl : _ = t_impl_areLengths (fun b => some (k_impl_areLengths.enc b)) z.1).trans (nat_impl_areLengths _ z.1))

/-! ### F69 impl.ValidStrip$1 -/
def t_impl_ValidStrip_1 {R : Type} (kx : Bool → Option R) (a0 : Int) : Option R :=
  Option.bind (g_impl_within a0 (2 : Int) (3 : Int)) fun y159 =>
  kx (!y159)
def g_impl_ValidStrip_1 (a0 : Int) : Option (Bool) := t_impl_ValidStrip_1 some a0
theorem nat_impl_ValidStrip_1 {R} kx a0 : @t_impl_ValidStrip_1 R kx a0 = (g_impl_ValidStrip_1 a0).bind kx := by
  unfold g_impl_ValidStrip_1 t_impl_ValidStrip_1
  exact nat_bind fun _ => rfl
abbrev k_impl_ValidStrip_1 : Contract := .fx [.val false (.int .i64)] (Bool) (fun z => g_impl_ValidStrip_1 z.1) (fun b => (.one ⟨false, [(.v (.bool b))]⟩, []))
theorem so_impl_ValidStrip_1 : Sound C0 69 k_impl_ValidStrip_1 :=
  Sound.fx (e := false) (.cons so_impl_within (.nil)) mixed Try.func69 (by kernel_rfl) (by kernel_rfl) noHints 1 noHints_ok (fun z => (by kernel_rfl : _ = t_impl_ValidStrip_1 (fun b => some (k_impl_ValidStrip_1.enc b)) z.1).trans (nat_impl_ValidStrip_1 _ z.1))

/-! ### F103 slices.IndexFunc[[]int64,int64] -/
def T_slices_IndexFunc_Sint64_int64__impl_ValidStrip_1 : List (FuncId × Contract) := [(69, k_impl_ValidStrip_1)]
abbrev s_slices_IndexFunc_Sint64_int64__impl_ValidStrip_1_3 : LS := ⟨[(false, [(.sl (.int .i64))]), (false, [(.fn 69 [])]), (false, [(.int .i64)]), (false, [(.int .i64)])], [], []⟩
abbrev e_slices_IndexFunc_Sint64_int64__impl_ValidStrip_1_3_0 : LS := ⟨[(false, [(.int .i64)])], [], []⟩
abbrev d_slices_IndexFunc_Sint64_int64__impl_ValidStrip_1_3_0 (v0 : Int) := ((((v0, ()), ()), (), ()) : e_slices_IndexFunc_Sint64_int64__impl_ValidStrip_1_3_0.T)
abbrev e_slices_IndexFunc_Sint64_int64__impl_ValidStrip_1_3_1 : LS := ⟨[(false, [.undef])], [], []⟩
abbrev d_slices_IndexFunc_Sint64_int64__impl_ValidStrip_1_3_1 := (((((), ()), ()), (), ()) : e_slices_IndexFunc_Sint64_int64__impl_ValidStrip_1_3_1.T)
abbrev x_slices_IndexFunc_Sint64_int64__impl_ValidStrip_1_3 : List (Ex × LS) := [(.ret, e_slices_IndexFunc_Sint64_int64__impl_ValidStrip_1_3_0), (.exit 0, e_slices_IndexFunc_Sint64_int64__impl_ValidStrip_1_3_1)]
abbrev m_slices_IndexFunc_Sint64_int64__impl_ValidStrip_1_3 (x0 : List Int) (x7 : Int) (x8 : Int) := ((((x0, ()), ((), ()), (x7, ()), (x8, ()), ()), (), ()) : s_slices_IndexFunc_Sint64_int64__impl_ValidStrip_1_3.T)
def u_slices_IndexFunc_Sint64_int64__impl_ValidStrip_1_3 {R : Type} (nx : s_slices_IndexFunc_Sint64_int64__impl_ValidStrip_1_3.T → Option R) (hx : exH R x_slices_IndexFunc_Sint64_int64__impl_ValidStrip_1_3) (x0 : List Int) (x7 : Int) (x8 : Int) : Option R :=
  cond (decide (x8 < x7))
  (Option.bind (idx x0 x8) fun y157 =>
   Option.bind (g_impl_ValidStrip_1 y157) fun y160 =>
   cond y160
   (hx.1 (d_slices_IndexFunc_Sint64_int64__impl_ValidStrip_1_3_0 x8))
   (nx (m_slices_IndexFunc_Sint64_int64__impl_ValidStrip_1_3 x0 x7 (IntKind.wrap IntKind.i64 (x8 + (1 : Int))))))
  (hx.2.1 (d_slices_IndexFunc_Sint64_int64__impl_ValidStrip_1_3_1))
def t_slices_IndexFunc_Sint64_int64__impl_ValidStrip_1_3 {R : Type} (nx : s_slices_IndexFunc_Sint64_int64__impl_ValidStrip_1_3.T → Option R) (hx : exH R x_slices_IndexFunc_Sint64_int64__impl_ValidStrip_1_3) (z : s_slices_IndexFunc_Sint64_int64__impl_ValidStrip_1_3.T) : Option R := u_slices_IndexFunc_Sint64_int64__impl_ValidStrip_1_3 nx hx z.1.1.1 z.1.2.2.1.1 z.1.2.2.2.1.1
theorem nat_slices_IndexFunc_Sint64_int64__impl_ValidStrip_1_3 : Natural @t_slices_IndexFunc_Sint64_int64__impl_ValidStrip_1_3 := fun R nx hx z => by
  show u_slices_IndexFunc_Sint64_int64__impl_ValidStrip_1_3 nx hx z.1.1.1 z.1.2.2.1.1 z.1.2.2.2.1.1 = (u_slices_IndexFunc_Sint64_int64__impl_ValidStrip_1_3 (fun y => some (.inl y)) (hIn x_slices_IndexFunc_Sint64_int64__impl_ValidStrip_1_3 fun x => some (.inr x)) z.1.1.1 z.1.2.2.1.1 z.1.2.2.2.1.1).bind (goOn nx hx)
  unfold u_slices_IndexFunc_Sint64_int64__impl_ValidStrip_1_3
  exact nat_cond (nat_bind fun _ => nat_bind fun _ => nat_cond (rfl) (rfl)) (rfl)
def w_slices_IndexFunc_Sint64_int64__impl_ValidStrip_1_3 : s_slices_IndexFunc_Sint64_int64__impl_ValidStrip_1_3.T → Option (exT x_slices_IndexFunc_Sint64_int64__impl_ValidStrip_1_3) := wOf @t_slices_IndexFunc_Sint64_int64__impl_ValidStrip_1_3
theorem wq_slices_IndexFunc_Sint64_int64__impl_ValidStrip_1_3 x0 x7 x8 : w_slices_IndexFunc_Sint64_int64__impl_ValidStrip_1_3 (m_slices_IndexFunc_Sint64_int64__impl_ValidStrip_1_3 x0 x7 x8) = u_slices_IndexFunc_Sint64_int64__impl_ValidStrip_1_3 w_slices_IndexFunc_Sint64_int64__impl_ValidStrip_1_3 (hIn x_slices_IndexFunc_Sint64_int64__impl_ValidStrip_1_3 some) x0 x7 x8 := wOf_eq nat_slices_IndexFunc_Sint64_int64__impl_ValidStrip_1_3 _
def lh_slices_IndexFunc_Sint64_int64__impl_ValidStrip_1_3 : LoopHint := ⟨[0, 1, 7, 8], [], [4], []⟩
def h_slices_IndexFunc_Sint64_int64__impl_ValidStrip_1 : Hints Rv := ⟨fun k => match k with | 3 => lh_slices_IndexFunc_Sint64_int64__impl_ValidStrip_1_3 | _ => ⟨[], [], [], []⟩, fun k => match k with | 3 => some (loopX s_slices_IndexFunc_Sint64_int64__impl_ValidStrip_1_3 x_slices_IndexFunc_Sint64_int64__impl_ValidStrip_1_3 w_slices_IndexFunc_Sint64_int64__impl_ValidStrip_1_3) | _ => none⟩
theorem st_slices_IndexFunc_Sint64_int64__impl_ValidStrip_1_3 (n : Nat) (z : s_slices_IndexFunc_Sint64_int64__impl_ValidStrip_1_3.T) (k : Ex → Live → Option Rv) : loopN ⟨19, 19⟩ lh_slices_IndexFunc_Sint64_int64__impl_ValidStrip_1_3 (den (tab C0 T_slices_IndexFunc_Sint64_int64__impl_ValidStrip_1) ⟨19, 19⟩ h_slices_IndexFunc_Sint64_int64__impl_ValidStrip_1 1 (loopOf Try.f103 2)) (n + 1) (s_slices_IndexFunc_Sint64_int64__impl_ValidStrip_1_3.enc z) k =
    t_slices_IndexFunc_Sint64_int64__impl_ValidStrip_1_3 (fun y => loopN ⟨19, 19⟩ lh_slices_IndexFunc_Sint64_int64__impl_ValidStrip_1_3 (den (tab C0 T_slices_IndexFunc_Sint64_int64__impl_ValidStrip_1) ⟨19, 19⟩ h_slices_IndexFunc_Sint64_int64__impl_ValidStrip_1 1 (loopOf Try.f103 2)) n (s_slices_IndexFunc_Sint64_int64__impl_ValidStrip_1_3.enc y) k) (hK k x_slices_IndexFunc_Sint64_int64__impl_ValidStrip_1_3) z := by kernel_rfl
theorem hs_slices_IndexFunc_Sint64_int64__impl_ValidStrip_1 : HintsOk (tab C0 T_slices_IndexFunc_Sint64_int64__impl_ValidStrip_1) ⟨19, 19⟩ h_slices_IndexFunc_Sint64_int64__impl_ValidStrip_1 1 (loops (codeOf Try.f103)) := by
  have hl : loops (codeOf Try.f103) = [loopOf Try.f103 2] := by kernel_rfl
  rw [hl]
  exact HintsOk.cons (n := 3) (lh := lh_slices_IndexFunc_Sint64_int64__impl_ValidStrip_1_3) (S := loopX s_slices_IndexFunc_Sint64_int64__impl_ValidStrip_1_3 x_slices_IndexFunc_Sint64_int64__impl_ValidStrip_1_3 w_slices_IndexFunc_Sint64_int64__impl_ValidStrip_1_3) (by kernel_rfl) rfl rfl (loopX_ok nat_slices_IndexFunc_Sint64_int64__impl_ValidStrip_1_3 st_slices_IndexFunc_Sint64_int64__impl_ValidStrip_1_3)
    (HintsOk.nil)
def t_slices_IndexFunc_Sint64_int64__impl_ValidStrip_1 {R : Type} (kx : Int → Option R) (a0 : (List Int)) : Option R :=
  Option.bind (w_slices_IndexFunc_Sint64_int64__impl_ValidStrip_1_3 (m_slices_IndexFunc_Sint64_int64__impl_ValidStrip_1_3 a0 (((List.length a0) : Nat) : Int) (0 : Int))) (exC x_slices_IndexFunc_Sint64_int64__impl_ValidStrip_1_3
  (fun e161 =>
   kx (e161.1.1.1 : Int), fun _ =>
   kx (-(1 : Int)), ()))
def g_slices_IndexFunc_Sint64_int64__impl_ValidStrip_1 (a0 : (List Int)) : Option (Int) := t_slices_IndexFunc_Sint64_int64__impl_ValidStrip_1 some a0
theorem nat_slices_IndexFunc_Sint64_int64__impl_ValidStrip_1 {R} kx a0 : @t_slices_IndexFunc_Sint64_int64__impl_ValidStrip_1 R kx a0 = (g_slices_IndexFunc_Sint64_int64__impl_ValidStrip_1 a0).bind kx := by
  unfold g_slices_IndexFunc_Sint64_int64__impl_ValidStrip_1 t_slices_IndexFunc_Sint64_int64__impl_ValidStrip_1
  exact nat_exC ⟨fun _ => rfl, fun _ => rfl, trivial⟩
abbrev k_slices_IndexFunc_Sint64_int64__impl_ValidStrip_1 : Contract := .fx [.val false (.slice (.int .i64)), .clo 69 []] (Int) (fun z => g_slices_IndexFunc_Sint64_int64__impl_ValidStrip_1 z.1) (fun b => (.one ⟨false, [(.v (.int .i64 b))]⟩, []))
theorem so_slices_IndexFunc_Sint64_int64__impl_ValidStrip_1 : Sound C0 103 k_slices_IndexFunc_Sint64_int64__impl_ValidStrip_1 :=
  Sound.fx (e := false) (t := T_slices_IndexFunc_Sint64_int64__impl_ValidStrip_1) (.cons so_impl_ValidStrip_1 (.nil)) mixed Try.func103 (by kernel_rfl) (by kernel_rfl) h_slices_IndexFunc_Sint64_int64__impl_ValidStrip_1 1 hs_slices_IndexFunc_Sint64_int64__impl_ValidStrip_1 (fun z => (by kernel_rfl : _ = t_slices_IndexFunc_Sint64_int64__impl_ValidStrip_1 (fun b => some (k_slices_IndexFunc_Sint64_int64__impl_ValidStrip_1.enc b)) z.1).trans (nat_slices_IndexFunc_Sint64_int64__impl_ValidStrip_1 _ z.1))

/-! ### F68 slices.ContainsFunc[[]int64,int64] -/
def t_slices_ContainsFunc_Sint64_int64__impl_ValidStrip_1 {R : Type} (kx : Bool → Option R) (a0 : (List Int)) : Option R :=
  Option.bind (g_slices_IndexFunc_Sint64_int64__impl_ValidStrip_1 a0) fun y164 =>
  kx (decide (y164 ≥ (0 : Int)))
def g_slices_ContainsFunc_Sint64_int64__impl_ValidStrip_1 (a0 : (List Int)) : Option (Bool) := t_slices_ContainsFunc_Sint64_int64__impl_ValidStrip_1 some a0
theorem nat_slices_ContainsFunc_Sint64_int64__impl_ValidStrip_1 {R} kx a0 : @t_slices_ContainsFunc_Sint64_int64__impl_ValidStrip_1 R kx a0 = (g_slices_ContainsFunc_Sint64_int64__impl_ValidStrip_1 a0).bind kx := by
  unfold g_slices_ContainsFunc_Sint64_int64__impl_ValidStrip_1 t_slices_ContainsFunc_Sint64_int64__impl_ValidStrip_1
  exact nat_bind fun _ => rfl
abbrev k_slices_ContainsFunc_Sint64_int64__impl_ValidStrip_1 : Contract := .fx [.val false (.slice (.int .i64)), .clo 69 []] (Bool) (fun z => g_slices_ContainsFunc_Sint64_int64__impl_ValidStrip_1 z.1) (fun b => (.one ⟨false, [(.v (.bool b))]⟩, []))
theorem so_slices_ContainsFunc_Sint64_int64__impl_ValidStrip_1 : Sound C0 68 k_slices_ContainsFunc_Sint64_int64__impl_ValidStrip_1 :=
  Sound.fx (e := false) (.cons so_slices_IndexFunc_Sint64_int64__impl_ValidStrip_1 (.nil)) mixed Try.func68 (by kernel_rfl) (by kernel_rfl) noHints 1 noHints_ok (fun z => (by kernel_rfl : _ = t_slices_ContainsFunc_Sint64_int64__impl_ValidStrip_1 (fun b => some (k_slices_ContainsFunc_Sint64_int64__impl_ValidStrip_1.enc b)) z.1).trans (nat_slices_ContainsFunc_Sint64_int64__impl_ValidStrip_1 _ z.1))

/-! ### F35 impl.ValidStrip -/
def t_impl_ValidStrip {R : Type} (kx : Bool → Option R) (a0 : ((List Int) × (List Int))) : Option R :=
  Option.bind (g_impl_areLengths a0.1) fun y151 =>
  cond y151
  (cond ((((List.length a0.2) : Nat) : Int) == (IntKind.wrap IntKind.i64 ((((List.length a0.1) : Nat) : Int) - (1 : Int))))
   (Option.bind (g_slices_ContainsFunc_Sint64_int64__impl_ValidStrip_1 a0.2) fun y165 =>
    kx (!y165))
   (kx Bool.false))
  (kx Bool.false)
def g_impl_ValidStrip (a0 : ((List Int) × (List Int))) : Option (Bool) := t_impl_ValidStrip some a0
theorem nat_impl_ValidStrip {R} kx a0 : @t_impl_ValidStrip R kx a0 = (g_impl_ValidStrip a0).bind kx := by
  unfold g_impl_ValidStrip t_impl_ValidStrip
  exact nat_bind fun _ => nat_cond (nat_cond (nat_bind fun _ => rfl) (rfl)) (rfl)
abbrev k_impl_ValidStrip : Contract := .fx [.val true (.pair (.slice (.int .i64)) (.slice (.int .i64)))] (Bool) (fun z => g_impl_ValidStrip z.1) (fun b => (.one ⟨false, [(.v (.bool b))]⟩, []))
theorem so_impl_ValidStrip : Sound C0 35 k_impl_ValidStrip :=
  Sound.fx (e := false) (.cons so_impl_areLengths (.cons so_slices_ContainsFunc_Sint64_int64__impl_ValidStrip_1 (.nil))) mixed Try.func35 (by kernel_rfl) (by kernel_rfl) noHints 1 noHints_ok (fun z => (by kernel_rfl : _ = t_impl_ValidStrip (fun b => some (k_impl_ValidStrip.enc b)) z.1).trans (nat_impl_ValidStrip _ z.1))

/-! ### F70 slices.Clone[[]int64,int64] -/
def t_slices_Clone_Sint64_int64_n {R : Type} (kx : (List Int) → Option R) (a0 : (List Int)) : Option R :=
  cond (decide (0 < (List.length a0)))
  (cond (decide ((((List.length ([] : List Int)) + (List.length a0)) * 8) ≤ 70368744177664))
   (cond (decide (((List.length ([] : List Int)) + (List.length a0)) ≤ 70368744177664))
    (kx ([] ++ a0))
    (none))
   (none))
  (none)
def g_slices_Clone_Sint64_int64_n (a0 : (List Int)) : Option ((List Int)) := t_slices_Clone_Sint64_int64_n some a0
theorem nat_slices_Clone_Sint64_int64_n {R} kx a0 : @t_slices_Clone_Sint64_int64_n R kx a0 = (g_slices_Clone_Sint64_int64_n a0).bind kx := by
  unfold g_slices_Clone_Sint64_int64_n t_slices_Clone_Sint64_int64_n
  exact nat_cond (nat_cond (nat_cond (rfl) (rfl)) (rfl)) (rfl)
abbrev as_slices_Clone_Sint64_int64_n : List AX := [.val false (.slice (.int .i64))]
abbrev en_slices_Clone_Sint64_int64_n : (List Int) → AV × List CV := fun b => (.one ⟨false, [(.own (.int .i64) b)]⟩, [])
abbrev k_slices_Clone_Sint64_int64_n : Contract := .fx as_slices_Clone_Sint64_int64_n ((List Int)) (fun z => g_slices_Clone_Sint64_int64_n z.1) en_slices_Clone_Sint64_int64_n
theorem so_slices_Clone_Sint64_int64_n : Sound C0 70 k_slices_Clone_Sint64_int64_n :=
  Sound.fx (e := false) (.nil) mixed Try.func70 (by kernel_rfl) (by kernel_rfl) noHints 1 noHints_ok (fun z => (by kernel_rfl : _ = t_slices_Clone_Sint64_int64_n (fun b => some (k_slices_Clone_Sint64_int64_n.enc b)) z.1).trans (nat_slices_Clone_Sint64_int64_n _ z.1))
theorem e_slices_Clone_Sint64_int64 : Sound C0 70 (Contract.emptyS (.int .i64)) :=
  Sound.emptyRun mixed Try.func70 (by kernel_rfl) (by kernel_rfl) (fun _ => rfl) (fun A c => by cases A <;> kernel_rfl)
def g_slices_Clone_Sint64_int64 (a0 : (List Int)) : Option ((List Int)) := cond (decide (List.length a0 ≤ 4000000)) (some a0) none
abbrev as_slices_Clone_Sint64_int64 : List AX := [.val false (.slice (.int .i64))]
abbrev en_slices_Clone_Sint64_int64 : (List Int) → AV × List CV := fun b => (.one ⟨false, [(.own (.int .i64) b)]⟩, [])
abbrev k_slices_Clone_Sint64_int64 : Contract := .fx as_slices_Clone_Sint64_int64 ((List Int)) (fun z => g_slices_Clone_Sint64_int64 z.1) en_slices_Clone_Sint64_int64
theorem so_slices_Clone_Sint64_int64 : Sound C0 70 k_slices_Clone_Sint64_int64 := by
  refine Sound.orEmpty so_slices_Clone_Sint64_int64_n (g' := g_slices_Clone_Sint64_int64) (fun l y h hne => ?_) (fun y h => ?_) e_slices_Clone_Sint64_int64
  · show g_slices_Clone_Sint64_int64_n l = some y
    unfold g_slices_Clone_Sint64_int64 at h
    cases hd : decide (List.length l ≤ 4000000) with
    | false => rw [hd] at h; cases h
    | true =>
      rw [hd] at h; cases h
      have h1 := of_decide_eq_true hd
      have h2 : 0 < List.length l := List.length_pos_iff.2 hne
      unfold g_slices_Clone_Sint64_int64_n t_slices_Clone_Sint64_int64_n
      simp only [List.length_nil, Nat.zero_add, List.nil_append]
      rw [decide_eq_true h2, decide_eq_true (by omega), decide_eq_true (by omega)]; rfl
  · cases h; rfl

/-! ### F39 (impl.Strip).isPossible -/
def t_impl_Strip_isPossible {R : Type} (kx : Bool → Option R) (a0 : ((List Int) × (List Int))) (a1 : (Int × Int)) : Option R :=
  Option.bind (g_impl_length_int64 a0.1) fun y202 =>
  cond (decide (y202 < (2 : Int)))
  (kx Bool.false)
  (cond (a1.1 == (2 : Int))
   (cond (a1.2 == (0 : Int))
    (Option.bind (idx a0.1 (0 : Int)) fun y203 =>
     Option.bind (idx a0.1 (1 : Int)) fun y204 =>
     kx (decide (y203 ≤ y204)))
    (kx Bool.false))
   (cond (a1.1 == (3 : Int))
    (cond (a1.2 == (IntKind.wrap IntKind.i64 (y202 - (1 : Int))))
     (Option.bind (idx a0.1 (IntKind.wrap IntKind.i64 (y202 - (1 : Int)))) fun y205 =>
      Option.bind (idx a0.1 (IntKind.wrap IntKind.i64 (y202 - (2 : Int)))) fun y206 =>
      kx (decide (y205 ≤ y206)))
     (kx Bool.false))
    (cond (a1.1 == (1 : Int))
     (Option.bind (g_impl_within a1.2 (1 : Int) (IntKind.wrap IntKind.i64 (y202 - (2 : Int)))) fun y207 =>
      cond y207
      (Option.bind (idx a0.1 a1.2) fun y208 =>
       Option.bind (idx a0.1 (IntKind.wrap IntKind.i64 (a1.2 - (1 : Int)))) fun y209 =>
       cond (decide (y208 ≤ y209))
       (Option.bind (idx a0.1 a1.2) fun y210 =>
        Option.bind (idx a0.1 (IntKind.wrap IntKind.i64 (a1.2 + (1 : Int)))) fun y211 =>
        cond (decide (y210 ≤ y211))
        (Option.bind (idx a0.2 (IntKind.wrap IntKind.i64 (a1.2 - (1 : Int)))) fun y212 =>
         Option.bind (idx a0.2 a1.2) fun y213 =>
         kx (y212 != y213))
        (kx Bool.false))
       (kx Bool.false))
      (kx Bool.false))
     (kx Bool.false))))
def g_impl_Strip_isPossible (a0 : ((List Int) × (List Int))) (a1 : (Int × Int)) : Option (Bool) := t_impl_Strip_isPossible some a0 a1
theorem nat_impl_Strip_isPossible {R} kx a0 a1 : @t_impl_Strip_isPossible R kx a0 a1 = (g_impl_Strip_isPossible a0 a1).bind kx := by
  unfold g_impl_Strip_isPossible t_impl_Strip_isPossible
  exact nat_bind fun _ => nat_cond (rfl) (nat_cond (nat_cond (nat_bind fun _ => nat_bind fun _ => rfl) (rfl)) (nat_cond (nat_cond (nat_bind fun _ => nat_bind fun _ => rfl) (rfl)) (nat_cond (nat_bind fun _ => nat_cond (nat_bind fun _ => nat_bind fun _ => nat_cond (nat_bind fun _ => nat_bind fun _ => nat_cond (nat_bind fun _ => nat_bind fun _ => rfl) (rfl)) (rfl)) (rfl)) (rfl))))
abbrev k_impl_Strip_isPossible : Contract := .fx [.val true (.pair (.slice (.int .i64)) (.slice (.int .i64))), .val true (.pair (.int .i64) (.int .i64))] (Bool) (fun z => g_impl_Strip_isPossible z.1 z.2.1) (fun b => (.one ⟨false, [(.v (.bool b))]⟩, []))
theorem so_impl_Strip_isPossible : Sound C0 39 k_impl_Strip_isPossible :=
  Sound.fx (e := false) (.cons so_impl_length_int64 (.cons so_impl_within (.nil))) mixed Try.func39 (by kernel_rfl) (by kernel_rfl) noHints 1 noHints_ok (fun z => (by kernel_rfl : _ = t_impl_Strip_isPossible (fun b => some (k_impl_Strip_isPossible.enc b)) z.1 z.2.1).trans (nat_impl_Strip_isPossible _ z.1 z.2.1))

/-! ### F76 (impl.Strip).steps$1 -/
def t_impl_Strip_steps_1 {R : Type} (kx : Bool → Option R) (a0 : (Int × Int)) (a1 : ((List Int) × (List Int))) : Option R :=
  Option.bind (g_impl_Strip_isPossible a1 a0) fun y214 =>
  kx (!y214)
def g_impl_Strip_steps_1 (a0 : (Int × Int)) (a1 : ((List Int) × (List Int))) : Option (Bool) := t_impl_Strip_steps_1 some a0 a1
theorem nat_impl_Strip_steps_1 {R} kx a0 a1 : @t_impl_Strip_steps_1 R kx a0 a1 = (g_impl_Strip_steps_1 a0 a1).bind kx := by
  unfold g_impl_Strip_steps_1 t_impl_Strip_steps_1
  exact nat_bind fun _ => rfl
abbrev k_impl_Strip_steps_1 : Contract := .fx [.val true (.pair (.int .i64) (.int .i64)), .ptr (.pair (.slice (.int .i64)) (.slice (.int .i64)))] (Bool) (fun z => g_impl_Strip_steps_1 z.1 z.2.1) (fun b => (.one ⟨false, [(.v (.bool b))]⟩, []))
theorem so_impl_Strip_steps_1 : Sound C0 76 k_impl_Strip_steps_1 :=
  Sound.fx (e := false) (.cons so_impl_Strip_isPossible (.nil)) mixed Try.func76 (by kernel_rfl) (by kernel_rfl) noHints 1 noHints_ok (fun z => (by kernel_rfl : _ = t_impl_Strip_steps_1 (fun b => some (k_impl_Strip_steps_1.enc b)) z.1 z.2.1).trans (nat_impl_Strip_steps_1 _ z.1 z.2.1))

/-! ### F108 slices.IndexFunc[[]impl.StripStep,impl.StripStep] -/
def T_slices_IndexFunc_Simpl_StripStep_impl_StripStep__impl_Strip_steps_1 : List (FuncId × Contract) := [(76, k_impl_Strip_steps_1)]
abbrev s_slices_IndexFunc_Simpl_StripStep_impl_StripStep__impl_Strip_steps_1_3 : LS := ⟨[(false, [(.sl (.pair (.int .i64) (.int .i64)))]), (false, [(.fn 76 [(19, 0)])]), (false, [(.int .i64)]), (false, [(.int .i64)])], [(true, [(.sl (.int .i64)), (.sl (.int .i64))])], []⟩
abbrev e_slices_IndexFunc_Simpl_StripStep_impl_StripStep__impl_Strip_steps_1_3_0 : LS := ⟨[(false, [(.int .i64)])], [], []⟩
abbrev d_slices_IndexFunc_Simpl_StripStep_impl_StripStep__impl_Strip_steps_1_3_0 (v0 : Int) := ((((v0, ()), ()), (), ()) : e_slices_IndexFunc_Simpl_StripStep_impl_StripStep__impl_Strip_steps_1_3_0.T)
abbrev e_slices_IndexFunc_Simpl_StripStep_impl_StripStep__impl_Strip_steps_1_3_1 : LS := ⟨[(false, [.undef])], [], []⟩
abbrev d_slices_IndexFunc_Simpl_StripStep_impl_StripStep__impl_Strip_steps_1_3_1 := (((((), ()), ()), (), ()) : e_slices_IndexFunc_Simpl_StripStep_impl_StripStep__impl_Strip_steps_1_3_1.T)
abbrev x_slices_IndexFunc_Simpl_StripStep_impl_StripStep__impl_Strip_steps_1_3 : List (Ex × LS) := [(.ret, e_slices_IndexFunc_Simpl_StripStep_impl_StripStep__impl_Strip_steps_1_3_0), (.exit 0, e_slices_IndexFunc_Simpl_StripStep_impl_StripStep__impl_Strip_steps_1_3_1)]
abbrev m_slices_IndexFunc_Simpl_StripStep_impl_StripStep__impl_Strip_steps_1_3 (x0 : List (Int × Int)) (x7 : Int) (x8 : Int) (b0_0 : List Int) (b0_1 : List Int) := ((((x0, ()), ((), ()), (x7, ()), (x8, ()), ()), ((b0_0, b0_1, ()), ()), ()) : s_slices_IndexFunc_Simpl_StripStep_impl_StripStep__impl_Strip_steps_1_3.T)
def u_slices_IndexFunc_Simpl_StripStep_impl_StripStep__impl_Strip_steps_1_3 {R : Type} (nx : s_slices_IndexFunc_Simpl_StripStep_impl_StripStep__impl_Strip_steps_1_3.T → Option R) (hx : exH R x_slices_IndexFunc_Simpl_StripStep_impl_StripStep__impl_Strip_steps_1_3) (x0 : List (Int × Int)) (x7 : Int) (x8 : Int) (b0_0 : List Int) (b0_1 : List Int) : Option R :=
  cond (decide (x8 < x7))
  (Option.bind (idx x0 x8) fun y197 =>
   Option.bind (g_impl_Strip_steps_1 y197 (b0_0, b0_1)) fun y215 =>
   cond y215
   (hx.1 (d_slices_IndexFunc_Simpl_StripStep_impl_StripStep__impl_Strip_steps_1_3_0 x8))
   (nx (m_slices_IndexFunc_Simpl_StripStep_impl_StripStep__impl_Strip_steps_1_3 x0 x7 (IntKind.wrap IntKind.i64 (x8 + (1 : Int))) b0_0 b0_1)))
  (hx.2.1 (d_slices_IndexFunc_Simpl_StripStep_impl_StripStep__impl_Strip_steps_1_3_1))
def t_slices_IndexFunc_Simpl_StripStep_impl_StripStep__impl_Strip_steps_1_3 {R : Type} (nx : s_slices_IndexFunc_Simpl_StripStep_impl_StripStep__impl_Strip_steps_1_3.T → Option R) (hx : exH R x_slices_IndexFunc_Simpl_StripStep_impl_StripStep__impl_Strip_steps_1_3) (z : s_slices_IndexFunc_Simpl_StripStep_impl_StripStep__impl_Strip_steps_1_3.T) : Option R := u_slices_IndexFunc_Simpl_StripStep_impl_StripStep__impl_Strip_steps_1_3 nx hx z.1.1.1 z.1.2.2.1.1 z.1.2.2.2.1.1 z.2.1.1.1 z.2.1.1.2.1
theorem nat_slices_IndexFunc_Simpl_StripStep_impl_StripStep__impl_Strip_steps_1_3 : Natural @t_slices_IndexFunc_Simpl_StripStep_impl_StripStep__impl_Strip_steps_1_3 := fun R nx hx z => by
  show u_slices_IndexFunc_Simpl_StripStep_impl_StripStep__impl_Strip_steps_1_3 nx hx z.1.1.1 z.1.2.2.1.1 z.1.2.2.2.1.1 z.2.1.1.1 z.2.1.1.2.1 = (u_slices_IndexFunc_Simpl_StripStep_impl_StripStep__impl_Strip_steps_1_3 (fun y => some (.inl y)) (hIn x_slices_IndexFunc_Simpl_StripStep_impl_StripStep__impl_Strip_steps_1_3 fun x => some (.inr x)) z.1.1.1 z.1.2.2.1.1 z.1.2.2.2.1.1 z.2.1.1.1 z.2.1.1.2.1).bind (goOn nx hx)
  unfold u_slices_IndexFunc_Simpl_StripStep_impl_StripStep__impl_Strip_steps_1_3
  exact nat_cond (nat_bind fun _ => nat_bind fun _ => nat_cond (rfl) (rfl)) (rfl)
def w_slices_IndexFunc_Simpl_StripStep_impl_StripStep__impl_Strip_steps_1_3 : s_slices_IndexFunc_Simpl_StripStep_impl_StripStep__impl_Strip_steps_1_3.T → Option (exT x_slices_IndexFunc_Simpl_StripStep_impl_StripStep__impl_Strip_steps_1_3) := wOf @t_slices_IndexFunc_Simpl_StripStep_impl_StripStep__impl_Strip_steps_1_3
theorem wq_slices_IndexFunc_Simpl_StripStep_impl_StripStep__impl_Strip_steps_1_3 x0 x7 x8 b0_0 b0_1 : w_slices_IndexFunc_Simpl_StripStep_impl_StripStep__impl_Strip_steps_1_3 (m_slices_IndexFunc_Simpl_StripStep_impl_StripStep__impl_Strip_steps_1_3 x0 x7 x8 b0_0 b0_1) = u_slices_IndexFunc_Simpl_StripStep_impl_StripStep__impl_Strip_steps_1_3 w_slices_IndexFunc_Simpl_StripStep_impl_StripStep__impl_Strip_steps_1_3 (hIn x_slices_IndexFunc_Simpl_StripStep_impl_StripStep__impl_Strip_steps_1_3 some) x0 x7 x8 b0_0 b0_1 := wOf_eq nat_slices_IndexFunc_Simpl_StripStep_impl_StripStep__impl_Strip_steps_1_3 _
def lh_slices_IndexFunc_Simpl_StripStep_impl_StripStep__impl_Strip_steps_1_3 : LoopHint := ⟨[0, 1, 7, 8], [19], [4], []⟩
def h_slices_IndexFunc_Simpl_StripStep_impl_StripStep__impl_Strip_steps_1 : Hints Rv := ⟨fun k => match k with | 3 => lh_slices_IndexFunc_Simpl_StripStep_impl_StripStep__impl_Strip_steps_1_3 | _ => ⟨[], [], [], []⟩, fun k => match k with | 3 => some (loopX s_slices_IndexFunc_Simpl_StripStep_impl_StripStep__impl_Strip_steps_1_3 x_slices_IndexFunc_Simpl_StripStep_impl_StripStep__impl_Strip_steps_1_3 w_slices_IndexFunc_Simpl_StripStep_impl_StripStep__impl_Strip_steps_1_3) | _ => none⟩
theorem st_slices_IndexFunc_Simpl_StripStep_impl_StripStep__impl_Strip_steps_1_3 (n : Nat) (z : s_slices_IndexFunc_Simpl_StripStep_impl_StripStep__impl_Strip_steps_1_3.T) (k : Ex → Live → Option Rv) : loopN ⟨19, 20⟩ lh_slices_IndexFunc_Simpl_StripStep_impl_StripStep__impl_Strip_steps_1_3 (den (tab C0 T_slices_IndexFunc_Simpl_StripStep_impl_StripStep__impl_Strip_steps_1) ⟨19, 20⟩ h_slices_IndexFunc_Simpl_StripStep_impl_StripStep__impl_Strip_steps_1 1 (loopOf Try.f108 2)) (n + 1) (s_slices_IndexFunc_Simpl_StripStep_impl_StripStep__impl_Strip_steps_1_3.enc z) k =
    t_slices_IndexFunc_Simpl_StripStep_impl_StripStep__impl_Strip_steps_1_3 (fun y => loopN ⟨19, 20⟩ lh_slices_IndexFunc_Simpl_StripStep_impl_StripStep__impl_Strip_steps_1_3 (den (tab C0 T_slices_IndexFunc_Simpl_StripStep_impl_StripStep__impl_Strip_steps_1) ⟨19, 20⟩ h_slices_IndexFunc_Simpl_StripStep_impl_StripStep__impl_Strip_steps_1 1 (loopOf Try.f108 2)) n (s_slices_IndexFunc_Simpl_StripStep_impl_StripStep__impl_Strip_steps_1_3.enc y) k) (hK k x_slices_IndexFunc_Simpl_StripStep_impl_StripStep__impl_Strip_steps_1_3) z := by kernel_rfl
theorem hs_slices_IndexFunc_Simpl_StripStep_impl_StripStep__impl_Strip_steps_1 : HintsOk (tab C0 T_slices_IndexFunc_Simpl_StripStep_impl_StripStep__impl_Strip_steps_1) ⟨19, 20⟩ h_slices_IndexFunc_Simpl_StripStep_impl_StripStep__impl_Strip_steps_1 1 (loops (codeOf Try.f108)) := by
  have hl : loops (codeOf Try.f108) = [loopOf Try.f108 2] := by kernel_rfl
  rw [hl]
  exact HintsOk.cons (n := 3) (lh := lh_slices_IndexFunc_Simpl_StripStep_impl_StripStep__impl_Strip_steps_1_3) (S := loopX s_slices_IndexFunc_Simpl_StripStep_impl_StripStep__impl_Strip_steps_1_3 x_slices_IndexFunc_Simpl_StripStep_impl_StripStep__impl_Strip_steps_1_3 w_slices_IndexFunc_Simpl_StripStep_impl_StripStep__impl_Strip_steps_1_3) (by kernel_rfl) rfl rfl (loopX_ok nat_slices_IndexFunc_Simpl_StripStep_impl_StripStep__impl_Strip_steps_1_3 st_slices_IndexFunc_Simpl_StripStep_impl_StripStep__impl_Strip_steps_1_3)
    (HintsOk.nil)
def t_slices_IndexFunc_Simpl_StripStep_impl_StripStep__impl_Strip_steps_1 {R : Type} (kx : Int → Option R) (a0 : (List (Int × Int))) (a1_0 : ((List Int) × (List Int))) : Option R :=
  Option.bind (w_slices_IndexFunc_Simpl_StripStep_impl_StripStep__impl_Strip_steps_1_3 (m_slices_IndexFunc_Simpl_StripStep_impl_StripStep__impl_Strip_steps_1_3 a0 (((List.length a0) : Nat) : Int) (0 : Int) a1_0.1 a1_0.2)) (exC x_slices_IndexFunc_Simpl_StripStep_impl_StripStep__impl_Strip_steps_1_3
  (fun e216 =>
   kx (e216.1.1.1 : Int), fun _ =>
   kx (-(1 : Int)), ()))
def g_slices_IndexFunc_Simpl_StripStep_impl_StripStep__impl_Strip_steps_1 (a0 : (List (Int × Int))) (a1_0 : ((List Int) × (List Int))) : Option (Int) := t_slices_IndexFunc_Simpl_StripStep_impl_StripStep__impl_Strip_steps_1 some a0 a1_0
theorem nat_slices_IndexFunc_Simpl_StripStep_impl_StripStep__impl_Strip_steps_1 {R} kx a0 a1_0 : @t_slices_IndexFunc_Simpl_StripStep_impl_StripStep__impl_Strip_steps_1 R kx a0 a1_0 = (g_slices_IndexFunc_Simpl_StripStep_impl_StripStep__impl_Strip_steps_1 a0 a1_0).bind kx := by
  unfold g_slices_IndexFunc_Simpl_StripStep_impl_StripStep__impl_Strip_steps_1 t_slices_IndexFunc_Simpl_StripStep_impl_StripStep__impl_Strip_steps_1
  exact nat_exC ⟨fun _ => rfl, fun _ => rfl, trivial⟩
abbrev k_slices_IndexFunc_Simpl_StripStep_impl_StripStep__impl_Strip_steps_1 : Contract := .fx [.val false (.slice (.pair (.int .i64) (.int .i64))), .clo 76 [(.pair (.slice (.int .i64)) (.slice (.int .i64)))]] (Int) (fun z => g_slices_IndexFunc_Simpl_StripStep_impl_StripStep__impl_Strip_steps_1 z.1 z.2.1.1) (fun b => (.one ⟨false, [(.v (.int .i64 b))]⟩, []))
theorem so_slices_IndexFunc_Simpl_StripStep_impl_StripStep__impl_Strip_steps_1 : Sound C0 108 k_slices_IndexFunc_Simpl_StripStep_impl_StripStep__impl_Strip_steps_1 :=
  Sound.fx (e := false) (t := T_slices_IndexFunc_Simpl_StripStep_impl_StripStep__impl_Strip_steps_1) (.cons so_impl_Strip_steps_1 (.nil)) mixed Try.func108 (by kernel_rfl) (by kernel_rfl) h_slices_IndexFunc_Simpl_StripStep_impl_StripStep__impl_Strip_steps_1 1 hs_slices_IndexFunc_Simpl_StripStep_impl_StripStep__impl_Strip_steps_1 (fun z => (by kernel_rfl : _ = t_slices_IndexFunc_Simpl_StripStep_impl_StripStep__impl_Strip_steps_1 (fun b => some (k_slices_IndexFunc_Simpl_StripStep_impl_StripStep__impl_Strip_steps_1.enc b)) z.1 z.2.1.1).trans (nat_slices_IndexFunc_Simpl_StripStep_impl_StripStep__impl_Strip_steps_1 _ z.1 z.2.1.1))

/-! ### F75 slices.DeleteFunc[[]impl.StripStep,impl.StripStep] -/
def T_slices_DeleteFunc_Simpl_StripStep_impl_StripStep__impl_Strip_steps_1 : List (FuncId × Contract) := [(108, k_slices_IndexFunc_Simpl_StripStep_impl_StripStep__impl_Strip_steps_1), (76, k_impl_Strip_steps_1)]
abbrev s_slices_DeleteFunc_Simpl_StripStep_impl_StripStep__impl_Strip_steps_1_6 : LS := ⟨[(false, [(.view (.arg 0) true 0 (.pair (.int .i64) (.int .i64)))]), (false, [(.fn 76 [(42, 0)])]), (false, [(.int .i64)]), (false, [(.int .i64)])], [(true, [(.sl (.int .i64)), (.sl (.int .i64))])], [(.own (.pair (.int .i64) (.int .i64)))]⟩
abbrev e_slices_DeleteFunc_Simpl_StripStep_impl_StripStep__impl_Strip_steps_1_6_0 : LS := ⟨[(false, [(.view (.arg 0) true 0 (.pair (.int .i64) (.int .i64)))]), (false, [(.int .i64)])], [], [(.own (.pair (.int .i64) (.int .i64)))]⟩
abbrev d_slices_DeleteFunc_Simpl_StripStep_impl_StripStep__impl_Strip_steps_1_6_0 (v0 : List (Int × Int)) (v1 : Int) (v2 : List (Int × Int)) := ((((v0, ()), (v1, ()), ()), (), (v2, ())) : e_slices_DeleteFunc_Simpl_StripStep_impl_StripStep__impl_Strip_steps_1_6_0.T)
abbrev x_slices_DeleteFunc_Simpl_StripStep_impl_StripStep__impl_Strip_steps_1_6 : List (Ex × LS) := [(.exit 0, e_slices_DeleteFunc_Simpl_StripStep_impl_StripStep__impl_Strip_steps_1_6_0)]
abbrev m_slices_DeleteFunc_Simpl_StripStep_impl_StripStep__impl_Strip_steps_1_6 (x0 : List (Int × Int)) (x5 : Int) (x6 : Int) (b0_0 : List Int) (b0_1 : List Int) (o : List (Int × Int)) := ((((x0, ()), ((), ()), (x5, ()), (x6, ()), ()), ((b0_0, b0_1, ()), ()), (o, ())) : s_slices_DeleteFunc_Simpl_StripStep_impl_StripStep__impl_Strip_steps_1_6.T)
def u_slices_DeleteFunc_Simpl_StripStep_impl_StripStep__impl_Strip_steps_1_6 {R : Type} (nx : s_slices_DeleteFunc_Simpl_StripStep_impl_StripStep__impl_Strip_steps_1_6.T → Option R) (hx : exH R x_slices_DeleteFunc_Simpl_StripStep_impl_StripStep__impl_Strip_steps_1_6) (x0 : List (Int × Int)) (x5 : Int) (x6 : Int) (b0_0 : List Int) (b0_1 : List Int) (o : List (Int × Int)) : Option R :=
  cond (decide (x6 < (((List.length x0) : Nat) : Int)))
  (Option.bind (idx x0 x6) fun y226 =>
   Option.bind (g_impl_Strip_steps_1 y226 (b0_0, b0_1)) fun y227 =>
   cond (!y227)
   (Option.bind (idx x0 x5) fun _ =>
    nx (m_slices_DeleteFunc_Simpl_StripStep_impl_StripStep__impl_Strip_steps_1_6 (List.set x0 (0 + (Int.toNat x5)) y226) (IntKind.wrap IntKind.i64 (x5 + (1 : Int))) (IntKind.wrap IntKind.i64 (x6 + (1 : Int))) b0_0 b0_1 (List.set o (0 + (Int.toNat x5)) y226)))
   (nx (m_slices_DeleteFunc_Simpl_StripStep_impl_StripStep__impl_Strip_steps_1_6 x0 x5 (IntKind.wrap IntKind.i64 (x6 + (1 : Int))) b0_0 b0_1 o)))
  (hx.1 (d_slices_DeleteFunc_Simpl_StripStep_impl_StripStep__impl_Strip_steps_1_6_0 x0 x5 o))
def t_slices_DeleteFunc_Simpl_StripStep_impl_StripStep__impl_Strip_steps_1_6 {R : Type} (nx : s_slices_DeleteFunc_Simpl_StripStep_impl_StripStep__impl_Strip_steps_1_6.T → Option R) (hx : exH R x_slices_DeleteFunc_Simpl_StripStep_impl_StripStep__impl_Strip_steps_1_6) (z : s_slices_DeleteFunc_Simpl_StripStep_impl_StripStep__impl_Strip_steps_1_6.T) : Option R := u_slices_DeleteFunc_Simpl_StripStep_impl_StripStep__impl_Strip_steps_1_6 nx hx z.1.1.1 z.1.2.2.1.1 z.1.2.2.2.1.1 z.2.1.1.1 z.2.1.1.2.1 z.2.2.1
theorem nat_slices_DeleteFunc_Simpl_StripStep_impl_StripStep__impl_Strip_steps_1_6 : Natural @t_slices_DeleteFunc_Simpl_StripStep_impl_StripStep__impl_Strip_steps_1_6 := fun R nx hx z => by
  show u_slices_DeleteFunc_Simpl_StripStep_impl_StripStep__impl_Strip_steps_1_6 nx hx z.1.1.1 z.1.2.2.1.1 z.1.2.2.2.1.1 z.2.1.1.1 z.2.1.1.2.1 z.2.2.1 = (u_slices_DeleteFunc_Simpl_StripStep_impl_StripStep__impl_Strip_steps_1_6 (fun y => some (.inl y)) (hIn x_slices_DeleteFunc_Simpl_StripStep_impl_StripStep__impl_Strip_steps_1_6 fun x => some (.inr x)) z.1.1.1 z.1.2.2.1.1 z.1.2.2.2.1.1 z.2.1.1.1 z.2.1.1.2.1 z.2.2.1).bind (goOn nx hx)
  unfold u_slices_DeleteFunc_Simpl_StripStep_impl_StripStep__impl_Strip_steps_1_6
  exact nat_cond (nat_bind fun _ => nat_bind fun _ => nat_cond (nat_bind fun _ => rfl) (rfl)) (rfl)
def w_slices_DeleteFunc_Simpl_StripStep_impl_StripStep__impl_Strip_steps_1_6 : s_slices_DeleteFunc_Simpl_StripStep_impl_StripStep__impl_Strip_steps_1_6.T → Option (exT x_slices_DeleteFunc_Simpl_StripStep_impl_StripStep__impl_Strip_steps_1_6) := wOf @t_slices_DeleteFunc_Simpl_StripStep_impl_StripStep__impl_Strip_steps_1_6
theorem wq_slices_DeleteFunc_Simpl_StripStep_impl_StripStep__impl_Strip_steps_1_6 x0 x5 x6 b0_0 b0_1 o : w_slices_DeleteFunc_Simpl_StripStep_impl_StripStep__impl_Strip_steps_1_6 (m_slices_DeleteFunc_Simpl_StripStep_impl_StripStep__impl_Strip_steps_1_6 x0 x5 x6 b0_0 b0_1 o) = u_slices_DeleteFunc_Simpl_StripStep_impl_StripStep__impl_Strip_steps_1_6 w_slices_DeleteFunc_Simpl_StripStep_impl_StripStep__impl_Strip_steps_1_6 (hIn x_slices_DeleteFunc_Simpl_StripStep_impl_StripStep__impl_Strip_steps_1_6 some) x0 x5 x6 b0_0 b0_1 o := wOf_eq nat_slices_DeleteFunc_Simpl_StripStep_impl_StripStep__impl_Strip_steps_1_6 _
def lh_slices_DeleteFunc_Simpl_StripStep_impl_StripStep__impl_Strip_steps_1_6 : LoopHint := ⟨[0, 1, 5, 6], [42], [0, 5], []⟩
def h_slices_DeleteFunc_Simpl_StripStep_impl_StripStep__impl_Strip_steps_1 : Hints Rv := ⟨fun k => match k with | 6 => lh_slices_DeleteFunc_Simpl_StripStep_impl_StripStep__impl_Strip_steps_1_6 | _ => ⟨[], [], [], []⟩, fun k => match k with | 6 => some (loopX s_slices_DeleteFunc_Simpl_StripStep_impl_StripStep__impl_Strip_steps_1_6 x_slices_DeleteFunc_Simpl_StripStep_impl_StripStep__impl_Strip_steps_1_6 w_slices_DeleteFunc_Simpl_StripStep_impl_StripStep__impl_Strip_steps_1_6) | _ => none⟩
theorem st_slices_DeleteFunc_Simpl_StripStep_impl_StripStep__impl_Strip_steps_1_6 (n : Nat) (z : s_slices_DeleteFunc_Simpl_StripStep_impl_StripStep__impl_Strip_steps_1_6.T) (k : Ex → Live → Option Rv) : loopN ⟨42, 43⟩ lh_slices_DeleteFunc_Simpl_StripStep_impl_StripStep__impl_Strip_steps_1_6 (den (tab C0 T_slices_DeleteFunc_Simpl_StripStep_impl_StripStep__impl_Strip_steps_1) ⟨42, 43⟩ h_slices_DeleteFunc_Simpl_StripStep_impl_StripStep__impl_Strip_steps_1 1 (loopOf Try.f75 5)) (n + 1) (s_slices_DeleteFunc_Simpl_StripStep_impl_StripStep__impl_Strip_steps_1_6.enc z) k =
    t_slices_DeleteFunc_Simpl_StripStep_impl_StripStep__impl_Strip_steps_1_6 (fun y => loopN ⟨42, 43⟩ lh_slices_DeleteFunc_Simpl_StripStep_impl_StripStep__impl_Strip_steps_1_6 (den (tab C0 T_slices_DeleteFunc_Simpl_StripStep_impl_StripStep__impl_Strip_steps_1) ⟨42, 43⟩ h_slices_DeleteFunc_Simpl_StripStep_impl_StripStep__impl_Strip_steps_1 1 (loopOf Try.f75 5)) n (s_slices_DeleteFunc_Simpl_StripStep_impl_StripStep__impl_Strip_steps_1_6.enc y) k) (hK k x_slices_DeleteFunc_Simpl_StripStep_impl_StripStep__impl_Strip_steps_1_6) z := by kernel_rfl
theorem hs_slices_DeleteFunc_Simpl_StripStep_impl_StripStep__impl_Strip_steps_1 : HintsOk (tab C0 T_slices_DeleteFunc_Simpl_StripStep_impl_StripStep__impl_Strip_steps_1) ⟨42, 43⟩ h_slices_DeleteFunc_Simpl_StripStep_impl_StripStep__impl_Strip_steps_1 1 (loops (codeOf Try.f75)) := by
  have hl : loops (codeOf Try.f75) = [loopOf Try.f75 5] := by kernel_rfl
  rw [hl]
  exact HintsOk.cons (n := 6) (lh := lh_slices_DeleteFunc_Simpl_StripStep_impl_StripStep__impl_Strip_steps_1_6) (S := loopX s_slices_DeleteFunc_Simpl_StripStep_impl_StripStep__impl_Strip_steps_1_6 x_slices_DeleteFunc_Simpl_StripStep_impl_StripStep__impl_Strip_steps_1_6 w_slices_DeleteFunc_Simpl_StripStep_impl_StripStep__impl_Strip_steps_1_6) (by kernel_rfl) rfl rfl (loopX_ok nat_slices_DeleteFunc_Simpl_StripStep_impl_StripStep__impl_Strip_steps_1_6 st_slices_DeleteFunc_Simpl_StripStep_impl_StripStep__impl_Strip_steps_1_6)
    (HintsOk.nil)
def t_slices_DeleteFunc_Simpl_StripStep_impl_StripStep__impl_Strip_steps_1 {R : Type} (kx : (List (Int × Int)) → Option R) (a0 : List (Int × Int)) (a1_0 : ((List Int) × (List Int))) : Option R :=
  Option.bind (g_slices_IndexFunc_Simpl_StripStep_impl_StripStep__impl_Strip_steps_1 a0 a1_0) fun y219 =>
  cond (y219 == (-(1 : Int)))
  (kx a0)
  (Option.bind (w_slices_DeleteFunc_Simpl_StripStep_impl_StripStep__impl_Strip_steps_1_6 (m_slices_DeleteFunc_Simpl_StripStep_impl_StripStep__impl_Strip_steps_1_6 a0 y219 (IntKind.wrap IntKind.i64 (y219 + (1 : Int))) a1_0.1 a1_0.2 a0)) (exC x_slices_DeleteFunc_Simpl_StripStep_impl_StripStep__impl_Strip_steps_1_6
   (fun e229 =>
    cond (decide (0 < (List.length (e229.1.1.1 : List (Int × Int)))))
    (cond (decide ((0 : Int) ≤ (e229.1.2.1.1 : Int)))
     (cond (decide ((e229.1.2.1.1 : Int) ≤ (((List.length (e229.1.1.1 : List (Int × Int))) : Nat) : Int)))
      (cond (decide (0 < (List.length (overL 0 (0 + (Int.toNat (e229.1.2.1.1 : Int))) (List.replicate (List.length (List.drop (Int.toNat (e229.1.2.1.1 : Int)) (List.take (List.length (e229.1.1.1 : List (Int × Int))) (e229.1.1.1 : List (Int × Int))))) ((0 : Int), (0 : Int))) (e229.1.1.1 : List (Int × Int))))))
       (cond (decide ((0 : Int) ≤ (e229.1.2.1.1 : Int)))
        (cond (decide ((e229.1.2.1.1 : Int) ≤ (((List.length (overL 0 (0 + (Int.toNat (e229.1.2.1.1 : Int))) (List.replicate (List.length (List.drop (Int.toNat (e229.1.2.1.1 : Int)) (List.take (List.length (e229.1.1.1 : List (Int × Int))) (e229.1.1.1 : List (Int × Int))))) ((0 : Int), (0 : Int))) (e229.1.1.1 : List (Int × Int)))) : Nat) : Int)))
         (kx (List.drop 0 (List.take (Int.toNat (e229.1.2.1.1 : Int)) (overL 0 (0 + (Int.toNat (e229.1.2.1.1 : Int))) (List.replicate (List.length (List.drop (Int.toNat (e229.1.2.1.1 : Int)) (List.take (List.length (e229.1.1.1 : List (Int × Int))) (e229.1.1.1 : List (Int × Int))))) ((0 : Int), (0 : Int))) (e229.1.1.1 : List (Int × Int))))))
         (none))
        (none))
       (none))
      (none))
     (none))
    (none), ())))
def g_slices_DeleteFunc_Simpl_StripStep_impl_StripStep__impl_Strip_steps_1 (a0 : List (Int × Int)) (a1_0 : ((List Int) × (List Int))) : Option ((List (Int × Int))) := t_slices_DeleteFunc_Simpl_StripStep_impl_StripStep__impl_Strip_steps_1 some a0 a1_0
theorem nat_slices_DeleteFunc_Simpl_StripStep_impl_StripStep__impl_Strip_steps_1 {R} kx a0 a1_0 : @t_slices_DeleteFunc_Simpl_StripStep_impl_StripStep__impl_Strip_steps_1 R kx a0 a1_0 = (g_slices_DeleteFunc_Simpl_StripStep_impl_StripStep__impl_Strip_steps_1 a0 a1_0).bind kx := by
  unfold g_slices_DeleteFunc_Simpl_StripStep_impl_StripStep__impl_Strip_steps_1 t_slices_DeleteFunc_Simpl_StripStep_impl_StripStep__impl_Strip_steps_1
  exact nat_bind fun _ => nat_cond (rfl) (nat_exC ⟨fun _ => nat_cond (nat_cond (nat_cond (nat_cond (nat_cond (nat_cond (rfl) (rfl)) (rfl)) (rfl)) (rfl)) (rfl)) (rfl), trivial⟩)
abbrev k_slices_DeleteFunc_Simpl_StripStep_impl_StripStep__impl_Strip_steps_1 : Contract := .fx [.io (.pair (.int .i64) (.int .i64)), .clo 76 [(.pair (.slice (.int .i64)) (.slice (.int .i64)))]] ((List (Int × Int))) (fun z => g_slices_DeleteFunc_Simpl_StripStep_impl_StripStep__impl_Strip_steps_1 z.1 z.2.1.1) (fun b => (.one ⟨false, [(.own (.pair (.int .i64) (.int .i64)) b)]⟩, [.undef]))
theorem so_slices_DeleteFunc_Simpl_StripStep_impl_StripStep__impl_Strip_steps_1 : Sound C0 75 k_slices_DeleteFunc_Simpl_StripStep_impl_StripStep__impl_Strip_steps_1 :=
  Sound.fxTake (e := false) (t := T_slices_DeleteFunc_Simpl_StripStep_impl_StripStep__impl_Strip_steps_1) (.cons so_slices_IndexFunc_Simpl_StripStep_impl_StripStep__impl_Strip_steps_1 (.cons so_impl_Strip_steps_1 (.nil))) mixed Try.func75 (by kernel_rfl) (by kernel_rfl) h_slices_DeleteFunc_Simpl_StripStep_impl_StripStep__impl_Strip_steps_1 1 hs_slices_DeleteFunc_Simpl_StripStep_impl_StripStep__impl_Strip_steps_1 (fun z => (by kernel_rfl : _ = t_slices_DeleteFunc_Simpl_StripStep_impl_StripStep__impl_Strip_steps_1 (fun b => some (k_slices_DeleteFunc_Simpl_StripStep_impl_StripStep__impl_Strip_steps_1.enc b)) z.1 z.2.1.1).trans (nat_slices_DeleteFunc_Simpl_StripStep_impl_StripStep__impl_Strip_steps_1 _ z.1 z.2.1.1))

/-! ### F41 (impl.Strip).steps -/
def T_impl_Strip_steps : List (FuncId × Contract) := [(72, k_impl_length_int64), (75, k_slices_DeleteFunc_Simpl_StripStep_impl_StripStep__impl_Strip_steps_1)]
abbrev s_impl_Strip_steps_5 : LS := ⟨[(false, [(.ptr 1 0)]), (false, [(.int .i64)]), (false, [(.own (.pair (.int .i64) (.int .i64)))]), (false, [(.int .i64)])], [(false, [(.sl (.int .i64)), (.sl (.int .i64))])], []⟩
abbrev e_impl_Strip_steps_5_0 : LS := ⟨[(false, [(.ptr 1 0)]), (false, [(.int .i64)]), (false, [(.own (.pair (.int .i64) (.int .i64)))])], [(false, [(.sl (.int .i64)), (.sl (.int .i64))])], []⟩
abbrev d_impl_Strip_steps_5_0 (v0 : Int) (v1 : List (Int × Int)) (v2 : List Int) (v3 : List Int) := (((((), ()), (v0, ()), (v1, ()), ()), ((v2, v3, ()), ()), ()) : e_impl_Strip_steps_5_0.T)
abbrev x_impl_Strip_steps_5 : List (Ex × LS) := [(.exit 0, e_impl_Strip_steps_5_0)]
abbrev m_impl_Strip_steps_5 (x3 : Int) (x4 : List (Int × Int)) (x5 : Int) (b0_0 : List Int) (b0_1 : List Int) := (((((), ()), (x3, ()), (x4, ()), (x5, ()), ()), ((b0_0, b0_1, ()), ()), ()) : s_impl_Strip_steps_5.T)
def u_impl_Strip_steps_5 {R : Type} (nx : s_impl_Strip_steps_5.T → Option R) (hx : exH R x_impl_Strip_steps_5) (x3 : Int) (x4 : List (Int × Int)) (x5 : Int) (b0_0 : List Int) (b0_1 : List Int) : Option R :=
  cond (decide (x5 ≤ (IntKind.wrap IntKind.i64 (x3 - (2 : Int)))))
  (cond (decide ((((List.length x4) + (List.length [((1 : Int), x5)])) * 16) ≤ 70368744177664))
   (cond (decide (((List.length x4) + (List.length [((1 : Int), x5)])) ≤ 70368744177664))
    (nx (m_impl_Strip_steps_5 x3 (x4 ++ [((1 : Int), x5)]) (IntKind.wrap IntKind.i64 (x5 + (1 : Int))) b0_0 b0_1))
    (none))
   (none))
  (hx.1 (d_impl_Strip_steps_5_0 x3 x4 b0_0 b0_1))
def t_impl_Strip_steps_5 {R : Type} (nx : s_impl_Strip_steps_5.T → Option R) (hx : exH R x_impl_Strip_steps_5) (z : s_impl_Strip_steps_5.T) : Option R := u_impl_Strip_steps_5 nx hx z.1.2.1.1 z.1.2.2.1.1 z.1.2.2.2.1.1 z.2.1.1.1 z.2.1.1.2.1
theorem nat_impl_Strip_steps_5 : Natural @t_impl_Strip_steps_5 := fun R nx hx z => by
  show u_impl_Strip_steps_5 nx hx z.1.2.1.1 z.1.2.2.1.1 z.1.2.2.2.1.1 z.2.1.1.1 z.2.1.1.2.1 = (u_impl_Strip_steps_5 (fun y => some (.inl y)) (hIn x_impl_Strip_steps_5 fun x => some (.inr x)) z.1.2.1.1 z.1.2.2.1.1 z.1.2.2.2.1.1 z.2.1.1.1 z.2.1.1.2.1).bind (goOn nx hx)
  unfold u_impl_Strip_steps_5
  exact nat_cond (nat_cond (nat_cond (rfl) (rfl)) (rfl)) (rfl)
def w_impl_Strip_steps_5 : s_impl_Strip_steps_5.T → Option (exT x_impl_Strip_steps_5) := wOf @t_impl_Strip_steps_5
theorem wq_impl_Strip_steps_5 x3 x4 x5 b0_0 b0_1 : w_impl_Strip_steps_5 (m_impl_Strip_steps_5 x3 x4 x5 b0_0 b0_1) = u_impl_Strip_steps_5 w_impl_Strip_steps_5 (hIn x_impl_Strip_steps_5 some) x3 x4 x5 b0_0 b0_1 := wOf_eq nat_impl_Strip_steps_5 _
def lh_impl_Strip_steps_5 : LoopHint := ⟨[1, 3, 4, 5], [1], [1, 3, 4], [1]⟩
def h_impl_Strip_steps : Hints Rv := ⟨fun k => match k with | 5 => lh_impl_Strip_steps_5 | _ => ⟨[], [], [], []⟩, fun k => match k with | 5 => some (loopX s_impl_Strip_steps_5 x_impl_Strip_steps_5 w_impl_Strip_steps_5) | _ => none⟩
theorem st_impl_Strip_steps_5 (n : Nat) (z : s_impl_Strip_steps_5.T) (k : Ex → Live → Option Rv) : loopN ⟨31, 31⟩ lh_impl_Strip_steps_5 (den (tab C0 T_impl_Strip_steps) ⟨31, 31⟩ h_impl_Strip_steps 1 (loopOf Try.f41 4)) (n + 1) (s_impl_Strip_steps_5.enc z) k =
    t_impl_Strip_steps_5 (fun y => loopN ⟨31, 31⟩ lh_impl_Strip_steps_5 (den (tab C0 T_impl_Strip_steps) ⟨31, 31⟩ h_impl_Strip_steps 1 (loopOf Try.f41 4)) n (s_impl_Strip_steps_5.enc y) k) (hK k x_impl_Strip_steps_5) z := by kernel_rfl
theorem hs_impl_Strip_steps : HintsOk (tab C0 T_impl_Strip_steps) ⟨31, 31⟩ h_impl_Strip_steps 1 (loops (codeOf Try.f41)) := by
  have hl : loops (codeOf Try.f41) = [loopOf Try.f41 4] := by kernel_rfl
  rw [hl]
  exact HintsOk.cons (n := 5) (lh := lh_impl_Strip_steps_5) (S := loopX s_impl_Strip_steps_5 x_impl_Strip_steps_5 w_impl_Strip_steps_5) (by kernel_rfl) rfl rfl (loopX_ok nat_impl_Strip_steps_5 st_impl_Strip_steps_5)
    (HintsOk.nil)
def t_impl_Strip_steps {R : Type} (kx : (List (Int × Int)) → Option R) (a0 : ((List Int) × (List Int))) : Option R :=
  Option.bind (g_impl_length_int64 a0.1) fun y177 =>
  Option.bind (w_impl_Strip_steps_5 (m_impl_Strip_steps_5 y177 [((2 : Int), (0 : Int))] (1 : Int) a0.1 a0.2)) (exC x_impl_Strip_steps_5
  (fun e183 =>
   cond (decide ((((List.length (e183.1.2.2.1.1 : List (Int × Int))) + (List.length [((3 : Int), (IntKind.wrap IntKind.i64 ((e183.1.2.1.1 : Int) - (1 : Int))))])) * 16) ≤ 70368744177664))
   (cond (decide (((List.length (e183.1.2.2.1.1 : List (Int × Int))) + (List.length [((3 : Int), (IntKind.wrap IntKind.i64 ((e183.1.2.1.1 : Int) - (1 : Int))))])) ≤ 70368744177664))
    (cond (decide ((List.length ((e183.1.2.2.1.1 : List (Int × Int)) ++ [((3 : Int), (IntKind.wrap IntKind.i64 ((e183.1.2.1.1 : Int) - (1 : Int))))])) = (List.length ((e183.1.2.2.1.1 : List (Int × Int)) ++ [((3 : Int), (IntKind.wrap IntKind.i64 ((e183.1.2.1.1 : Int) - (1 : Int))))]))))
     (Option.bind (g_slices_DeleteFunc_Simpl_StripStep_impl_StripStep__impl_Strip_steps_1 ((e183.1.2.2.1.1 : List (Int × Int)) ++ [((3 : Int), (IntKind.wrap IntKind.i64 ((e183.1.2.1.1 : Int) - (1 : Int))))]) ((e183.2.1.1.1 : List Int), (e183.2.1.1.2.1 : List Int))) fun y233 =>
      kx y233)
     (none))
    (none))
   (none), ()))
def g_impl_Strip_steps (a0 : ((List Int) × (List Int))) : Option ((List (Int × Int))) := t_impl_Strip_steps some a0
theorem nat_impl_Strip_steps {R} kx a0 : @t_impl_Strip_steps R kx a0 = (g_impl_Strip_steps a0).bind kx := by
  unfold g_impl_Strip_steps t_impl_Strip_steps
  exact nat_bind fun _ => nat_exC ⟨fun _ => nat_cond (nat_cond (nat_cond (nat_bind fun _ => rfl) (rfl)) (rfl)) (rfl), trivial⟩
abbrev k_impl_Strip_steps : Contract := .fx [.val true (.pair (.slice (.int .i64)) (.slice (.int .i64)))] ((List (Int × Int))) (fun z => g_impl_Strip_steps z.1) (fun b => (.one ⟨false, [(.own (.pair (.int .i64) (.int .i64)) b)]⟩, []))
theorem so_impl_Strip_steps : Sound C0 41 k_impl_Strip_steps :=
  Sound.fx (e := false) (t := T_impl_Strip_steps) (.cons so_impl_length_int64 (.cons so_slices_DeleteFunc_Simpl_StripStep_impl_StripStep__impl_Strip_steps_1 (.nil))) mixed Try.func41 (by kernel_rfl) (by kernel_rfl) h_impl_Strip_steps 1 hs_impl_Strip_steps (fun z => (by kernel_rfl : _ = t_impl_Strip_steps (fun b => some (k_impl_Strip_steps.enc b)) z.1).trans (nat_impl_Strip_steps _ z.1))

/-! ### F104 slices.Insert[[]int64,int64] -/
def t_slices_Insert_Sint64_int64 {R : Type} (kx : (List Int) → Option R) (a0 : (List Int)) (a1 : Int) (a2 : (List Int)) : Option R :=
  cond (decide ((0 : Int) ≤ a1))
  (cond (decide (a1 ≤ (((List.length a0) : Nat) : Int)))
   (cond ((((List.length a2) : Nat) : Int) == (0 : Int))
    (kx a0)
    (cond (a1 == (((List.length a0) : Nat) : Int))
     (none)
     (none)))
   (none))
  (none)
def g_slices_Insert_Sint64_int64 (a0 : (List Int)) (a1 : Int) (a2 : (List Int)) : Option ((List Int)) := t_slices_Insert_Sint64_int64 some a0 a1 a2
theorem nat_slices_Insert_Sint64_int64 {R} kx a0 a1 a2 : @t_slices_Insert_Sint64_int64 R kx a0 a1 a2 = (g_slices_Insert_Sint64_int64 a0 a1 a2).bind kx := by
  unfold g_slices_Insert_Sint64_int64 t_slices_Insert_Sint64_int64
  exact nat_cond (nat_cond (nat_cond (rfl) (nat_cond (rfl) (rfl))) (rfl)) (rfl)
abbrev k_slices_Insert_Sint64_int64 : Contract := .fx [.val false (.slice (.int .i64)), .val false (.int .i64), .val false (.slice (.int .i64))] ((List Int)) (fun z => g_slices_Insert_Sint64_int64 z.1 z.2.1 z.2.2.1) (fun b => (.one ⟨false, [(.sl (.int .i64) b)]⟩, []))
theorem so_slices_Insert_Sint64_int64 : Sound C0 104 k_slices_Insert_Sint64_int64 :=
  Sound.fx (e := false) (.nil) mixed Try.func104 (by kernel_rfl) (by kernel_rfl) noHints 1 noHints_ok (fun z => (by kernel_rfl : _ = t_slices_Insert_Sint64_int64 (fun b => some (k_slices_Insert_Sint64_int64.enc b)) z.1 z.2.1 z.2.2.1).trans (nat_slices_Insert_Sint64_int64 _ z.1 z.2.1 z.2.2.1))

/-! ### F73 slices.Replace[[]int64,int64] -/
def t_slices_Replace_Sint64_int64 {R : Type} (kx : (List Int) → Option R) (a0 : List Int) (a1 : Int) (a2 : Int) (a3 : (List Int)) : Option R :=
  cond (decide (0 < (List.length a0)))
  (cond (decide ((0 : Int) ≤ a1))
   (cond (decide (a1 ≤ a2))
    (cond (decide (a2 ≤ (((List.length a0) : Nat) : Int)))
     (cond (a1 == a2)
      (Option.bind (g_slices_Insert_Sint64_int64 a0 a1 a3) fun _ =>
       none)
      (cond (a2 == (((List.length a0) : Nat) : Int))
       (cond (decide (0 < (List.length a0)))
        (cond (decide ((0 : Int) ≤ a1))
         (cond (decide (a1 ≤ (((List.length a0) : Nat) : Int)))
          (cond (decide ((((0 + 0) + (List.length (List.drop 0 (List.take (Int.toNat a1) a0)))) + (List.length a3)) ≤ (List.length a0)))
           (cond (decide ((((List.length ((List.drop 0 (List.take (Int.toNat a1) a0)) ++ a3)) : Nat) : Int) < (((List.length (overL 0 ((0 + 0) + (List.length (List.drop 0 (List.take (Int.toNat a1) a0)))) a3 a0)) : Nat) : Int)))
            (cond (decide (0 < (List.length (overL 0 ((0 + 0) + (List.length (List.drop 0 (List.take (Int.toNat a1) a0)))) a3 a0))))
             (cond (decide ((((List.length ((List.drop 0 (List.take (Int.toNat a1) a0)) ++ a3)) : Nat) : Int) ≤ (((List.length (overL 0 ((0 + 0) + (List.length (List.drop 0 (List.take (Int.toNat a1) a0)))) a3 a0)) : Nat) : Int)))
              (kx (overL (0 + 0) (0 + (Int.toNat (((List.length ((List.drop 0 (List.take (Int.toNat a1) a0)) ++ a3)) : Nat) : Int))) (List.replicate (List.length (List.drop (Int.toNat (((List.length ((List.drop 0 (List.take (Int.toNat a1) a0)) ++ a3)) : Nat) : Int)) (List.take (List.length (overL 0 ((0 + 0) + (List.length (List.drop 0 (List.take (Int.toNat a1) a0)))) a3 a0)) (overL 0 ((0 + 0) + (List.length (List.drop 0 (List.take (Int.toNat a1) a0)))) a3 a0)))) (0 : Int)) ((List.drop 0 (List.take (Int.toNat a1) a0)) ++ a3)))
              (none))
             (none))
            (kx ((List.drop 0 (List.take (Int.toNat a1) a0)) ++ a3)))
           (cond (decide ((((List.length (List.drop 0 (List.take (Int.toNat a1) a0))) + (List.length a3)) * 8) ≤ 70368744177664))
            (cond (decide (((List.length (List.drop 0 (List.take (Int.toNat a1) a0))) + (List.length a3)) ≤ 70368744177664))
             (none)
             (none))
            (none)))
          (none))
         (none))
        (none))
       (cond (decide (0 < (List.length a0)))
        (cond (decide ((0 : Int) ≤ a1))
         (cond (decide (a1 ≤ (((List.length a0) : Nat) : Int)))
          (cond (decide (0 < (List.length a0)))
           (cond (decide ((0 : Int) ≤ a2))
            (cond (decide (a2 ≤ (((List.length a0) : Nat) : Int)))
             (cond (decide ((IntKind.wrap IntKind.i64 ((IntKind.wrap IntKind.i64 ((((List.length (List.drop 0 (List.take (Int.toNat a1) a0))) : Nat) : Int) + (((List.length a3) : Nat) : Int))) + (((List.length (List.drop (Int.toNat a2) (List.take (List.length a0) a0))) : Nat) : Int))) ≤ (((List.length a0) : Nat) : Int)))
              (cond (decide (0 < (List.length a0)))
               (cond (decide ((0 : Int) ≤ (IntKind.wrap IntKind.i64 ((IntKind.wrap IntKind.i64 ((((List.length (List.drop 0 (List.take (Int.toNat a1) a0))) : Nat) : Int) + (((List.length a3) : Nat) : Int))) + (((List.length (List.drop (Int.toNat a2) (List.take (List.length a0) a0))) : Nat) : Int)))))
                (cond (decide ((IntKind.wrap IntKind.i64 ((IntKind.wrap IntKind.i64 ((((List.length (List.drop 0 (List.take (Int.toNat a1) a0))) : Nat) : Int) + (((List.length a3) : Nat) : Int))) + (((List.length (List.drop (Int.toNat a2) (List.take (List.length a0) a0))) : Nat) : Int))) ≤ (((List.length a0) : Nat) : Int)))
                 (cond (decide ((IntKind.wrap IntKind.i64 (a1 + (((List.length a3) : Nat) : Int))) ≤ a2))
                  (cond (decide ((0 : Int) ≤ a1))
                   (cond (decide (a1 ≤ (((List.length (List.drop 0 (List.take (Int.toNat (IntKind.wrap IntKind.i64 ((IntKind.wrap IntKind.i64 ((((List.length (List.drop 0 (List.take (Int.toNat a1) a0))) : Nat) : Int) + (((List.length a3) : Nat) : Int))) + (((List.length (List.drop (Int.toNat a2) (List.take (List.length a0) a0))) : Nat) : Int)))) a0))) : Nat) : Int)))
                    (cond (decide ((List.length a3) ≤ (List.length (List.drop (Int.toNat a1) (List.take (List.length (List.drop 0 (List.take (Int.toNat (IntKind.wrap IntKind.i64 ((IntKind.wrap IntKind.i64 ((((List.length (List.drop 0 (List.take (Int.toNat a1) a0))) : Nat) : Int) + (((List.length a3) : Nat) : Int))) + (((List.length (List.drop (Int.toNat a2) (List.take (List.length a0) a0))) : Nat) : Int)))) a0))) (List.drop 0 (List.take (Int.toNat (IntKind.wrap IntKind.i64 ((IntKind.wrap IntKind.i64 ((((List.length (List.drop 0 (List.take (Int.toNat a1) a0))) : Nat) : Int) + (((List.length a3) : Nat) : Int))) + (((List.length (List.drop (Int.toNat a2) (List.take (List.length a0) a0))) : Nat) : Int)))) a0)))))))
                     (cond (decide ((0 : Int) ≤ (IntKind.wrap IntKind.i64 (a1 + (((List.length a3) : Nat) : Int)))))
                      (cond (decide ((IntKind.wrap IntKind.i64 (a1 + (((List.length a3) : Nat) : Int))) ≤ (((List.length (overL (0 + 0) ((0 + 0) + (Int.toNat a1)) a3 (List.drop 0 (List.take (Int.toNat (IntKind.wrap IntKind.i64 ((IntKind.wrap IntKind.i64 ((((List.length (List.drop 0 (List.take (Int.toNat a1) a0))) : Nat) : Int) + (((List.length a3) : Nat) : Int))) + (((List.length (List.drop (Int.toNat a2) (List.take (List.length a0) a0))) : Nat) : Int)))) a0)))) : Nat) : Int)))
                       (cond (decide (0 < (List.length (overL 0 ((0 + 0) + (Int.toNat a1)) a3 a0))))
                        (cond (decide ((0 : Int) ≤ a2))
                         (cond (decide (a2 ≤ (((List.length (overL 0 ((0 + 0) + (Int.toNat a1)) a3 a0)) : Nat) : Int)))
                          (cond (decide ((List.length (List.drop (Int.toNat a2) (List.take (List.length (overL 0 ((0 + 0) + (Int.toNat a1)) a3 a0)) (overL 0 ((0 + 0) + (Int.toNat a1)) a3 a0)))) ≤ (List.length (List.drop (Int.toNat (IntKind.wrap IntKind.i64 (a1 + (((List.length a3) : Nat) : Int)))) (List.take (List.length (overL (0 + 0) ((0 + 0) + (Int.toNat a1)) a3 (List.drop 0 (List.take (Int.toNat (IntKind.wrap IntKind.i64 ((IntKind.wrap IntKind.i64 ((((List.length (List.drop 0 (List.take (Int.toNat a1) a0))) : Nat) : Int) + (((List.length a3) : Nat) : Int))) + (((List.length (List.drop (Int.toNat a2) (List.take (List.length a0) a0))) : Nat) : Int)))) a0)))) (overL (0 + 0) ((0 + 0) + (Int.toNat a1)) a3 (List.drop 0 (List.take (Int.toNat (IntKind.wrap IntKind.i64 ((IntKind.wrap IntKind.i64 ((((List.length (List.drop 0 (List.take (Int.toNat a1) a0))) : Nat) : Int) + (((List.length a3) : Nat) : Int))) + (((List.length (List.drop (Int.toNat a2) (List.take (List.length a0) a0))) : Nat) : Int)))) a0))))))))
                           (cond (decide (0 < (List.length (overL 0 ((0 + 0) + (Int.toNat (IntKind.wrap IntKind.i64 (a1 + (((List.length a3) : Nat) : Int))))) (List.drop (Int.toNat a2) (List.take (List.length (overL 0 ((0 + 0) + (Int.toNat a1)) a3 a0)) (overL 0 ((0 + 0) + (Int.toNat a1)) a3 a0))) (overL 0 ((0 + 0) + (Int.toNat a1)) a3 a0)))))
                            (cond (decide ((0 : Int) ≤ (IntKind.wrap IntKind.i64 ((IntKind.wrap IntKind.i64 ((((List.length (List.drop 0 (List.take (Int.toNat a1) a0))) : Nat) : Int) + (((List.length a3) : Nat) : Int))) + (((List.length (List.drop (Int.toNat a2) (List.take (List.length a0) a0))) : Nat) : Int)))))
                             (cond (decide ((IntKind.wrap IntKind.i64 ((IntKind.wrap IntKind.i64 ((((List.length (List.drop 0 (List.take (Int.toNat a1) a0))) : Nat) : Int) + (((List.length a3) : Nat) : Int))) + (((List.length (List.drop (Int.toNat a2) (List.take (List.length a0) a0))) : Nat) : Int))) ≤ (((List.length (overL 0 ((0 + 0) + (Int.toNat (IntKind.wrap IntKind.i64 (a1 + (((List.length a3) : Nat) : Int))))) (List.drop (Int.toNat a2) (List.take (List.length (overL 0 ((0 + 0) + (Int.toNat a1)) a3 a0)) (overL 0 ((0 + 0) + (Int.toNat a1)) a3 a0))) (overL 0 ((0 + 0) + (Int.toNat a1)) a3 a0))) : Nat) : Int)))
                              (kx (overL (0 + 0) (0 + (Int.toNat (IntKind.wrap IntKind.i64 ((IntKind.wrap IntKind.i64 ((((List.length (List.drop 0 (List.take (Int.toNat a1) a0))) : Nat) : Int) + (((List.length a3) : Nat) : Int))) + (((List.length (List.drop (Int.toNat a2) (List.take (List.length a0) a0))) : Nat) : Int))))) (List.replicate (List.length (List.drop (Int.toNat (IntKind.wrap IntKind.i64 ((IntKind.wrap IntKind.i64 ((((List.length (List.drop 0 (List.take (Int.toNat a1) a0))) : Nat) : Int) + (((List.length a3) : Nat) : Int))) + (((List.length (List.drop (Int.toNat a2) (List.take (List.length a0) a0))) : Nat) : Int)))) (List.take (List.length (overL 0 ((0 + 0) + (Int.toNat (IntKind.wrap IntKind.i64 (a1 + (((List.length a3) : Nat) : Int))))) (List.drop (Int.toNat a2) (List.take (List.length (overL 0 ((0 + 0) + (Int.toNat a1)) a3 a0)) (overL 0 ((0 + 0) + (Int.toNat a1)) a3 a0))) (overL 0 ((0 + 0) + (Int.toNat a1)) a3 a0))) (overL 0 ((0 + 0) + (Int.toNat (IntKind.wrap IntKind.i64 (a1 + (((List.length a3) : Nat) : Int))))) (List.drop (Int.toNat a2) (List.take (List.length (overL 0 ((0 + 0) + (Int.toNat a1)) a3 a0)) (overL 0 ((0 + 0) + (Int.toNat a1)) a3 a0))) (overL 0 ((0 + 0) + (Int.toNat a1)) a3 a0))))) (0 : Int)) (overL (0 + 0) ((0 + 0) + (Int.toNat (IntKind.wrap IntKind.i64 (a1 + (((List.length a3) : Nat) : Int))))) (List.drop (Int.toNat a2) (List.take (List.length (overL 0 ((0 + 0) + (Int.toNat a1)) a3 a0)) (overL 0 ((0 + 0) + (Int.toNat a1)) a3 a0))) (overL (0 + 0) ((0 + 0) + (Int.toNat a1)) a3 (List.drop 0 (List.take (Int.toNat (IntKind.wrap IntKind.i64 ((IntKind.wrap IntKind.i64 ((((List.length (List.drop 0 (List.take (Int.toNat a1) a0))) : Nat) : Int) + (((List.length a3) : Nat) : Int))) + (((List.length (List.drop (Int.toNat a2) (List.take (List.length a0) a0))) : Nat) : Int)))) a0))))))
                              (none))
                             (none))
                            (none))
                           (none))
                          (none))
                         (none))
                        (none))
                       (none))
                      (none))
                     (none))
                    (none))
                   (none))
                  (cond (decide ((0 : Int) ≤ (IntKind.wrap IntKind.i64 (a1 + (((List.length a3) : Nat) : Int)))))
                   (cond (decide ((IntKind.wrap IntKind.i64 (a1 + (((List.length a3) : Nat) : Int))) ≤ (((List.length (List.drop 0 (List.take (Int.toNat (IntKind.wrap IntKind.i64 ((IntKind.wrap IntKind.i64 ((((List.length (List.drop 0 (List.take (Int.toNat a1) a0))) : Nat) : Int) + (((List.length a3) : Nat) : Int))) + (((List.length (List.drop (Int.toNat a2) (List.take (List.length a0) a0))) : Nat) : Int)))) a0))) : Nat) : Int)))
                    (none)
                    (none))
                   (none)))
                 (none))
                (none))
               (none))
              (none))
             (none))
            (none))
           (none))
          (none))
         (none))
        (none))))
     (none))
    (none))
   (none))
  (none)
def g_slices_Replace_Sint64_int64 (a0 : List Int) (a1 : Int) (a2 : Int) (a3 : (List Int)) : Option ((List Int)) := t_slices_Replace_Sint64_int64 some a0 a1 a2 a3
theorem nat_slices_Replace_Sint64_int64 {R} kx a0 a1 a2 a3 : @t_slices_Replace_Sint64_int64 R kx a0 a1 a2 a3 = (g_slices_Replace_Sint64_int64 a0 a1 a2 a3).bind kx := by
  unfold g_slices_Replace_Sint64_int64 t_slices_Replace_Sint64_int64
  exact nat_cond (nat_cond (nat_cond (nat_cond (nat_cond (nat_bind fun _ => rfl) (nat_cond (nat_cond (nat_cond (nat_cond (nat_cond (nat_cond (nat_cond (nat_cond (rfl) (rfl)) (rfl)) (rfl)) (nat_cond (nat_cond (rfl) (rfl)) (rfl))) (rfl)) (rfl)) (rfl)) (nat_cond (nat_cond (nat_cond (nat_cond (nat_cond (nat_cond (nat_cond (nat_cond (nat_cond (nat_cond (nat_cond (nat_cond (nat_cond (nat_cond (nat_cond (nat_cond (nat_cond (nat_cond (nat_cond (nat_cond (nat_cond (nat_cond (nat_cond (rfl) (rfl)) (rfl)) (rfl)) (rfl)) (rfl)) (rfl)) (rfl)) (rfl)) (rfl)) (rfl)) (rfl)) (rfl)) (nat_cond (nat_cond (rfl) (rfl)) (rfl))) (rfl)) (rfl)) (rfl)) (rfl)) (rfl)) (rfl)) (rfl)) (rfl)) (rfl)) (rfl)))) (rfl)) (rfl)) (rfl)) (rfl)
abbrev k_slices_Replace_Sint64_int64 : Contract := .fx [.io (.int .i64), .val false (.int .i64), .val false (.int .i64), .val false (.slice (.int .i64))] ((List Int)) (fun z => g_slices_Replace_Sint64_int64 z.1 z.2.1 z.2.2.1 z.2.2.2.1) (fun b => (.one ⟨false, [(.own (.int .i64) b)]⟩, [.undef]))
theorem so_slices_Replace_Sint64_int64 : Sound C0 73 k_slices_Replace_Sint64_int64 :=
  Sound.fxTake (e := false) (.cons so_slices_Insert_Sint64_int64 (.nil)) mixed Try.func73 (by kernel_rfl) (by kernel_rfl) noHints 1 noHints_ok (fun z => (by kernel_rfl : _ = t_slices_Replace_Sint64_int64 (fun b => some (k_slices_Replace_Sint64_int64.enc b)) z.1 z.2.1 z.2.2.1 z.2.2.2.1).trans (nat_slices_Replace_Sint64_int64 _ z.1 z.2.1 z.2.2.1 z.2.2.2.1))

/-! ### F74 slices.Delete[[]int64,int64] -/
def t_slices_Delete_Sint64_int64 {R : Type} (kx : (List Int) → Option R) (a0 : List Int) (a1 : Int) (a2 : Int) : Option R :=
  cond (decide ((0 : Int) ≤ a1))
  (cond (decide (a1 ≤ a2))
   (cond (decide (a2 ≤ (((List.length a0) : Nat) : Int)))
    (cond (decide ((((List.length a0) : Nat) : Int) ≤ (((List.length a0) : Nat) : Int)))
     (cond (a1 == a2)
      (kx a0)
      (cond (decide (0 < (List.length a0)))
       (cond (decide ((0 : Int) ≤ a1))
        (cond (decide (a1 ≤ (((List.length a0) : Nat) : Int)))
         (cond (decide (0 < (List.length a0)))
          (cond (decide ((0 : Int) ≤ a2))
           (cond (decide (a2 ≤ (((List.length a0) : Nat) : Int)))
            (cond (decide ((((0 + 0) + (List.length (List.drop 0 (List.take (Int.toNat a1) a0)))) + (List.length (List.drop (Int.toNat a2) (List.take (List.length a0) a0)))) ≤ (List.length a0)))
             (cond (decide ((((List.length ((List.drop 0 (List.take (Int.toNat a1) a0)) ++ (List.drop (Int.toNat a2) (List.take (List.length a0) a0)))) : Nat) : Int) ≤ (((List.length a0) : Nat) : Int)))
              (cond (decide ((((List.length a0) : Nat) : Int) ≤ ((((List.length (overL 0 ((0 + 0) + (List.length (List.drop 0 (List.take (Int.toNat a1) a0)))) (List.drop (Int.toNat a2) (List.take (List.length a0) a0)) a0)) - (0 + 0)) : Nat) : Int)))
               (kx (overL (0 + 0) ((0 + 0) + (Int.toNat (((List.length ((List.drop 0 (List.take (Int.toNat a1) a0)) ++ (List.drop (Int.toNat a2) (List.take (List.length a0) a0)))) : Nat) : Int))) (List.replicate (List.length (List.drop (Int.toNat (((List.length ((List.drop 0 (List.take (Int.toNat a1) a0)) ++ (List.drop (Int.toNat a2) (List.take (List.length a0) a0)))) : Nat) : Int)) (List.take (Int.toNat (((List.length a0) : Nat) : Int)) (List.drop (0 + 0) (overL 0 ((0 + 0) + (List.length (List.drop 0 (List.take (Int.toNat a1) a0)))) (List.drop (Int.toNat a2) (List.take (List.length a0) a0)) a0))))) (0 : Int)) ((List.drop 0 (List.take (Int.toNat a1) a0)) ++ (List.drop (Int.toNat a2) (List.take (List.length a0) a0)))))
               (none))
              (none))
             (cond (decide ((((List.length (List.drop 0 (List.take (Int.toNat a1) a0))) + (List.length (List.drop (Int.toNat a2) (List.take (List.length a0) a0)))) * 8) ≤ 70368744177664))
              (cond (decide (((List.length (List.drop 0 (List.take (Int.toNat a1) a0))) + (List.length (List.drop (Int.toNat a2) (List.take (List.length a0) a0)))) ≤ 70368744177664))
               (cond (decide (0 < (List.length ((List.drop 0 (List.take (Int.toNat a1) a0)) ++ (List.drop (Int.toNat a2) (List.take (List.length a0) a0))))))
                (cond (decide ((((List.length ((List.drop 0 (List.take (Int.toNat a1) a0)) ++ (List.drop (Int.toNat a2) (List.take (List.length a0) a0)))) : Nat) : Int) ≤ (((List.length a0) : Nat) : Int)))
                 (cond (decide ((((List.length a0) : Nat) : Int) ≤ (((List.length ((List.drop 0 (List.take (Int.toNat a1) a0)) ++ (List.drop (Int.toNat a2) (List.take (List.length a0) a0)))) : Nat) : Int)))
                  (kx (overL 0 (0 + (Int.toNat (((List.length ((List.drop 0 (List.take (Int.toNat a1) a0)) ++ (List.drop (Int.toNat a2) (List.take (List.length a0) a0)))) : Nat) : Int))) (List.replicate (List.length (List.drop (Int.toNat (((List.length ((List.drop 0 (List.take (Int.toNat a1) a0)) ++ (List.drop (Int.toNat a2) (List.take (List.length a0) a0)))) : Nat) : Int)) (List.take (Int.toNat (((List.length a0) : Nat) : Int)) ((List.drop 0 (List.take (Int.toNat a1) a0)) ++ (List.drop (Int.toNat a2) (List.take (List.length a0) a0)))))) (0 : Int)) ((List.drop 0 (List.take (Int.toNat a1) a0)) ++ (List.drop (Int.toNat a2) (List.take (List.length a0) a0)))))
                  (none))
                 (none))
                (none))
               (none))
              (none)))
            (none))
           (none))
          (none))
         (none))
        (none))
       (none)))
     (none))
    (none))
   (none))
  (none)
def g_slices_Delete_Sint64_int64 (a0 : List Int) (a1 : Int) (a2 : Int) : Option ((List Int)) := t_slices_Delete_Sint64_int64 some a0 a1 a2
theorem nat_slices_Delete_Sint64_int64 {R} kx a0 a1 a2 : @t_slices_Delete_Sint64_int64 R kx a0 a1 a2 = (g_slices_Delete_Sint64_int64 a0 a1 a2).bind kx := by
  unfold g_slices_Delete_Sint64_int64 t_slices_Delete_Sint64_int64
  exact nat_cond (nat_cond (nat_cond (nat_cond (nat_cond (rfl) (nat_cond (nat_cond (nat_cond (nat_cond (nat_cond (nat_cond (nat_cond (nat_cond (nat_cond (rfl) (rfl)) (rfl)) (nat_cond (nat_cond (nat_cond (nat_cond (nat_cond (rfl) (rfl)) (rfl)) (rfl)) (rfl)) (rfl))) (rfl)) (rfl)) (rfl)) (rfl)) (rfl)) (rfl))) (rfl)) (rfl)) (rfl)) (rfl)
abbrev k_slices_Delete_Sint64_int64 : Contract := .fx [.io (.int .i64), .val false (.int .i64), .val false (.int .i64)] ((List Int)) (fun z => g_slices_Delete_Sint64_int64 z.1 z.2.1 z.2.2.1) (fun b => (.one ⟨false, [(.own (.int .i64) b)]⟩, [.undef]))
theorem so_slices_Delete_Sint64_int64 : Sound C0 74 k_slices_Delete_Sint64_int64 :=
  Sound.fxTake (e := false) (.nil) mixed Try.func74 (by kernel_rfl) (by kernel_rfl) noHints 1 noHints_ok (fun z => (by kernel_rfl : _ = t_slices_Delete_Sint64_int64 (fun b => some (k_slices_Delete_Sint64_int64.enc b)) z.1 z.2.1 z.2.2.1).trans (nat_slices_Delete_Sint64_int64 _ z.1 z.2.1 z.2.2.1))

/-! ### F40 (impl.Strip).apply -/
def t_impl_Strip_apply {R : Type} (kx : ((List Int) × (List Int)) → Option R) (a0 : ((List Int) × (List Int))) (a1 : (Int × Int)) : Option R :=
  Option.bind (g_slices_Clone_Sint64_int64 a0.1) fun y239 =>
  Option.bind (g_slices_Clone_Sint64_int64 a0.2) fun y240 =>
  cond (a1.1 == (2 : Int))
  (cond (decide (0 < (List.length y239)))
   (cond (decide ((1 : Int) ≤ (((List.length y239) : Nat) : Int)))
    (cond (decide (0 < (List.length y240)))
     (cond (decide ((1 : Int) ≤ (((List.length y240) : Nat) : Int)))
      (kx ((List.drop (Int.toNat (1 : Int)) (List.take (List.length y239) y239)), (List.drop (Int.toNat (1 : Int)) (List.take (List.length y240) y240))))
      (none))
     (none))
    (none))
   (none))
  (cond (a1.1 == (3 : Int))
   (cond (decide (0 < (List.length y239)))
    (cond (decide ((0 : Int) ≤ a1.2))
     (cond (decide (a1.2 ≤ (((List.length y239) : Nat) : Int)))
      (cond (decide (0 < (List.length y240)))
       (cond (decide ((0 : Int) ≤ (IntKind.wrap IntKind.i64 (a1.2 - (1 : Int)))))
        (cond (decide ((IntKind.wrap IntKind.i64 (a1.2 - (1 : Int))) ≤ (((List.length y240) : Nat) : Int)))
         (kx ((List.drop 0 (List.take (Int.toNat a1.2) y239)), (List.drop 0 (List.take (Int.toNat (IntKind.wrap IntKind.i64 (a1.2 - (1 : Int)))) y240))))
         (none))
        (none))
       (none))
      (none))
     (none))
    (none))
   (Option.bind (idx y239 (IntKind.wrap IntKind.i64 (a1.2 - (1 : Int)))) fun y241 =>
    Option.bind (idx y239 a1.2) fun y242 =>
    Option.bind (idx y239 (IntKind.wrap IntKind.i64 (a1.2 + (1 : Int)))) fun y243 =>
    cond (decide ((List.length y239) = (List.length y239)))
    (Option.bind (g_slices_Replace_Sint64_int64 y239 (IntKind.wrap IntKind.i64 (a1.2 - (1 : Int))) (IntKind.wrap IntKind.i64 (a1.2 + (2 : Int))) [(IntKind.wrap IntKind.i64 ((IntKind.wrap IntKind.i64 (y241 - y242)) + y243))]) fun y252 =>
     cond (decide ((List.length y240) = (List.length y240)))
     (Option.bind (g_slices_Delete_Sint64_int64 y240 (IntKind.wrap IntKind.i64 (a1.2 - (1 : Int))) (IntKind.wrap IntKind.i64 (a1.2 + (1 : Int)))) fun y256 =>
      kx (y252, y256))
     (none))
    (none)))
def g_impl_Strip_apply (a0 : ((List Int) × (List Int))) (a1 : (Int × Int)) : Option (((List Int) × (List Int))) := t_impl_Strip_apply some a0 a1
theorem nat_impl_Strip_apply {R} kx a0 a1 : @t_impl_Strip_apply R kx a0 a1 = (g_impl_Strip_apply a0 a1).bind kx := by
  unfold g_impl_Strip_apply t_impl_Strip_apply
  exact nat_bind fun _ => nat_bind fun _ => nat_cond (nat_cond (nat_cond (nat_cond (nat_cond (rfl) (rfl)) (rfl)) (rfl)) (rfl)) (nat_cond (nat_cond (nat_cond (nat_cond (nat_cond (nat_cond (nat_cond (rfl) (rfl)) (rfl)) (rfl)) (rfl)) (rfl)) (rfl)) (nat_bind fun _ => nat_bind fun _ => nat_bind fun _ => nat_cond (nat_bind fun _ => nat_cond (nat_bind fun _ => rfl) (rfl)) (rfl)))
abbrev k_impl_Strip_apply : Contract := .fx [.val true (.pair (.slice (.int .i64)) (.slice (.int .i64))), .val true (.pair (.int .i64) (.int .i64))] (((List Int) × (List Int))) (fun z => g_impl_Strip_apply z.1 z.2.1) (fun b => (.one ⟨true, [(.own (.int .i64) b.1), (.own (.int .i64) b.2)]⟩, []))
theorem so_impl_Strip_apply : Sound C0 40 k_impl_Strip_apply :=
  Sound.fx (e := false) (.cons so_slices_Clone_Sint64_int64 (.cons so_slices_Replace_Sint64_int64 (.cons so_slices_Delete_Sint64_int64 (.nil)))) mixed Try.func40 (by kernel_rfl) (by kernel_rfl) noHints 1 noHints_ok (fun z => (by kernel_rfl : _ = t_impl_Strip_apply (fun b => some (k_impl_Strip_apply.enc b)) z.1 z.2.1).trans (nat_impl_Strip_apply _ z.1 z.2.1))

/-! ### F36 (impl.Strip).reduce -/
def T_impl_Strip_reduce : List (FuncId × Contract) := [(70, k_slices_Clone_Sint64_int64), (41, k_impl_Strip_steps), (40, k_impl_Strip_apply)]
abbrev s_impl_Strip_reduce_4 : LS := ⟨[(false, [(.ptr 3 0)]), (false, [(.ptr 4 0)]), (false, [(.own (.pair (.int .i64) (.int .i64)))])], [(false, [(.own (.int .i64)), (.own (.int .i64))]), (false, [(.own (.int .i64)), (.own (.int .i64))])], []⟩
abbrev e_impl_Strip_reduce_4_0 : LS := ⟨[(false, [(.own (.pair (.int .i64) (.int .i64)))]), (false, [(.ptr 3 0)])], [(false, [(.own (.int .i64)), (.own (.int .i64))])], []⟩
abbrev d_impl_Strip_reduce_4_0 (v0 : List (Int × Int)) (v1 : List Int) (v2 : List Int) := ((((v0, ()), ((), ()), ()), ((v1, v2, ()), ()), ()) : e_impl_Strip_reduce_4_0.T)
abbrev x_impl_Strip_reduce_4 : List (Ex × LS) := [(.ret, e_impl_Strip_reduce_4_0)]
abbrev m_impl_Strip_reduce_4 (x5 : List (Int × Int)) (b0_0 : List Int) (b0_1 : List Int) (b1_0 : List Int) (b1_1 : List Int) := (((((), ()), ((), ()), (x5, ()), ()), ((b0_0, b0_1, ()), (b1_0, b1_1, ()), ()), ()) : s_impl_Strip_reduce_4.T)
def u_impl_Strip_reduce_4 {R : Type} (nx : s_impl_Strip_reduce_4.T → Option R) (hx : exH R x_impl_Strip_reduce_4) (x5 : List (Int × Int)) (b0_0 : List Int) (b0_1 : List Int) (b1_0 : List Int) (b1_1 : List Int) : Option R :=
  Option.bind (g_impl_Strip_steps (b1_0, b1_1)) fun y234 =>
  cond ((((List.length y234) : Nat) : Int) == (0 : Int))
  (hx.1 (d_impl_Strip_reduce_4_0 x5 b1_0 b1_1))
  (Option.bind (idx y234 (0 : Int)) fun y235 =>
   cond (decide ((((List.length x5) + (List.length [y235])) * 16) ≤ 70368744177664))
   (cond (decide (((List.length x5) + (List.length [y235])) ≤ 70368744177664))
    (Option.bind (idx y234 (0 : Int)) fun y236 =>
     Option.bind (g_impl_Strip_apply (b1_0, b1_1) y236) fun y257 =>
     nx (m_impl_Strip_reduce_4 (x5 ++ [y235]) b0_0 b0_1 y257.1 y257.2))
    (none))
   (none))
def t_impl_Strip_reduce_4 {R : Type} (nx : s_impl_Strip_reduce_4.T → Option R) (hx : exH R x_impl_Strip_reduce_4) (z : s_impl_Strip_reduce_4.T) : Option R := u_impl_Strip_reduce_4 nx hx z.1.2.2.1.1 z.2.1.1.1 z.2.1.1.2.1 z.2.1.2.1.1 z.2.1.2.1.2.1
theorem nat_impl_Strip_reduce_4 : Natural @t_impl_Strip_reduce_4 := fun R nx hx z => by
  show u_impl_Strip_reduce_4 nx hx z.1.2.2.1.1 z.2.1.1.1 z.2.1.1.2.1 z.2.1.2.1.1 z.2.1.2.1.2.1 = (u_impl_Strip_reduce_4 (fun y => some (.inl y)) (hIn x_impl_Strip_reduce_4 fun x => some (.inr x)) z.1.2.2.1.1 z.2.1.1.1 z.2.1.1.2.1 z.2.1.2.1.1 z.2.1.2.1.2.1).bind (goOn nx hx)
  unfold u_impl_Strip_reduce_4
  exact nat_bind fun _ => nat_cond (rfl) (nat_bind fun _ => nat_cond (nat_cond (nat_bind fun _ => nat_bind fun _ => rfl) (rfl)) (rfl))
def w_impl_Strip_reduce_4 : s_impl_Strip_reduce_4.T → Option (exT x_impl_Strip_reduce_4) := wOf @t_impl_Strip_reduce_4
theorem wq_impl_Strip_reduce_4 x5 b0_0 b0_1 b1_0 b1_1 : w_impl_Strip_reduce_4 (m_impl_Strip_reduce_4 x5 b0_0 b0_1 b1_0 b1_1) = u_impl_Strip_reduce_4 w_impl_Strip_reduce_4 (hIn x_impl_Strip_reduce_4 some) x5 b0_0 b0_1 b1_0 b1_1 := wOf_eq nat_impl_Strip_reduce_4 _
def lh_impl_Strip_reduce_4 : LoopHint := ⟨[3, 4, 5], [3, 4], [2, 3], [3]⟩
def h_impl_Strip_reduce : Hints Rv := ⟨fun k => match k with | 4 => lh_impl_Strip_reduce_4 | _ => ⟨[], [], [], []⟩, fun k => match k with | 4 => some (loopX s_impl_Strip_reduce_4 x_impl_Strip_reduce_4 w_impl_Strip_reduce_4) | _ => none⟩
theorem st_impl_Strip_reduce_4 (n : Nat) (z : s_impl_Strip_reduce_4.T) (k : Ex → Live → Option Rv) : loopN ⟨32, 32⟩ lh_impl_Strip_reduce_4 (den (tab C0 T_impl_Strip_reduce) ⟨32, 32⟩ h_impl_Strip_reduce 1 (loopOf Try.f36 3)) (n + 1) (s_impl_Strip_reduce_4.enc z) k =
    t_impl_Strip_reduce_4 (fun y => loopN ⟨32, 32⟩ lh_impl_Strip_reduce_4 (den (tab C0 T_impl_Strip_reduce) ⟨32, 32⟩ h_impl_Strip_reduce 1 (loopOf Try.f36 3)) n (s_impl_Strip_reduce_4.enc y) k) (hK k x_impl_Strip_reduce_4) z := by kernel_rfl
theorem hs_impl_Strip_reduce : HintsOk (tab C0 T_impl_Strip_reduce) ⟨32, 32⟩ h_impl_Strip_reduce 1 (loops (codeOf Try.f36)) := by
  have hl : loops (codeOf Try.f36) = [loopOf Try.f36 3] := by kernel_rfl
  rw [hl]
  exact HintsOk.cons (n := 4) (lh := lh_impl_Strip_reduce_4) (S := loopX s_impl_Strip_reduce_4 x_impl_Strip_reduce_4 w_impl_Strip_reduce_4) (by kernel_rfl) rfl rfl (loopX_ok nat_impl_Strip_reduce_4 st_impl_Strip_reduce_4)
    (HintsOk.nil)
def t_impl_Strip_reduce {R : Type} (kx : (List (Int × Int)) × ((List Int) × (List Int)) → Option R) (a0 : ((List Int) × (List Int))) : Option R :=
  Option.bind (g_slices_Clone_Sint64_int64 a0.1) fun y169 =>
  Option.bind (g_slices_Clone_Sint64_int64 a0.2) fun y170 =>
  Option.bind (w_impl_Strip_reduce_4 (m_impl_Strip_reduce_4 [] [] [] y169 y170)) (exC x_impl_Strip_reduce_4
  (fun e258 =>
   kx ((e258.1.1.1 : List (Int × Int)), ((e258.2.1.1.1 : List Int), (e258.2.1.1.2.1 : List Int))), ()))
def g_impl_Strip_reduce (a0 : ((List Int) × (List Int))) : Option ((List (Int × Int)) × ((List Int) × (List Int))) := t_impl_Strip_reduce some a0
theorem nat_impl_Strip_reduce {R} kx a0 : @t_impl_Strip_reduce R kx a0 = (g_impl_Strip_reduce a0).bind kx := by
  unfold g_impl_Strip_reduce t_impl_Strip_reduce
  exact nat_bind fun _ => nat_bind fun _ => nat_exC ⟨fun _ => rfl, trivial⟩
abbrev k_impl_Strip_reduce : Contract := .fx [.val true (.pair (.slice (.int .i64)) (.slice (.int .i64)))] ((List (Int × Int)) × ((List Int) × (List Int))) (fun z => g_impl_Strip_reduce z.1) (fun b => (.tup [⟨false, [(.own (.pair (.int .i64) (.int .i64)) b.1)]⟩, ⟨true, [(.own (.int .i64) b.2.1), (.own (.int .i64) b.2.2)]⟩], []))
theorem so_impl_Strip_reduce : Sound C0 36 k_impl_Strip_reduce :=
  Sound.fx (e := false) (t := T_impl_Strip_reduce) (.cons so_slices_Clone_Sint64_int64 (.cons so_impl_Strip_steps (.cons so_impl_Strip_apply (.nil)))) mixed Try.func36 (by kernel_rfl) (by kernel_rfl) h_impl_Strip_reduce 1 hs_impl_Strip_reduce (fun z => (by kernel_rfl : _ = t_impl_Strip_reduce (fun b => some (k_impl_Strip_reduce.enc b)) z.1).trans (nat_impl_Strip_reduce _ z.1))

/-! ### F9 impl.ReduceStrip -/
def t_impl_ReduceStrip {R : Type} (kx : (List (Int × Int)) × ((List Int) × (List Int)) → Option R) (a0 : ((List Int) × (List Int))) : Option R :=
  Option.bind (g_impl_ValidStrip a0) fun y166 =>
  cond (!y166)
  (kx ([], ([], [])))
  (Option.bind (g_impl_Strip_reduce a0) fun y262 =>
   kx y262)
def g_impl_ReduceStrip (a0 : ((List Int) × (List Int))) : Option ((List (Int × Int)) × ((List Int) × (List Int))) := t_impl_ReduceStrip some a0
theorem nat_impl_ReduceStrip {R} kx a0 : @t_impl_ReduceStrip R kx a0 = (g_impl_ReduceStrip a0).bind kx := by
  unfold g_impl_ReduceStrip t_impl_ReduceStrip
  exact nat_bind fun _ => nat_cond (rfl) (nat_bind fun _ => rfl)
abbrev k_impl_ReduceStrip : Contract := .fx [.val true (.pair (.slice (.int .i64)) (.slice (.int .i64)))] ((List (Int × Int)) × ((List Int) × (List Int))) (fun z => g_impl_ReduceStrip z.1) (fun b => (.tup [⟨false, [(.own (.pair (.int .i64) (.int .i64)) b.1)]⟩, ⟨true, [(.own (.int .i64) b.2.1), (.own (.int .i64) b.2.2)]⟩], []))
theorem so_impl_ReduceStrip : Sound C0 9 k_impl_ReduceStrip :=
  Sound.fx (e := false) (.cons so_impl_ValidStrip (.cons so_impl_Strip_reduce (.nil))) mixed Try.func9 (by kernel_rfl) (by kernel_rfl) noHints 1 noHints_ok (fun z => (by kernel_rfl : _ = t_impl_ReduceStrip (fun b => some (k_impl_ReduceStrip.enc b)) z.1).trans (nat_impl_ReduceStrip _ z.1))

/-! ### F43 spec.l00In -/
def t_spec_l00In {R : Type} (kx : Bool → Option R) (a0 : Int) (a1 : Int) (a2 : Int) : Option R :=
  cond (decide (a0 ≥ a1))
  (kx (decide (a0 ≤ a2)))
  (kx Bool.false)
def g_spec_l00In (a0 : Int) (a1 : Int) (a2 : Int) : Option (Bool) := t_spec_l00In some a0 a1 a2
theorem nat_spec_l00In {R} kx a0 a1 a2 : @t_spec_l00In R kx a0 a1 a2 = (g_spec_l00In a0 a1 a2).bind kx := by
  unfold g_spec_l00In t_spec_l00In
  exact nat_cond (rfl) (rfl)
abbrev k_spec_l00In : Contract := .fx [.val false (.int .i64), .val false (.int .i64), .val false (.int .i64)] (Bool) (fun z => g_spec_l00In z.1 z.2.1 z.2.2.1) (fun b => (.one ⟨false, [(.v (.bool b))]⟩, []))
theorem so_spec_l00In : Sound C0 43 k_spec_l00In :=
  Sound.fx (e := false) (.nil) mixed Try.func43 (by kernel_rfl) (by kernel_rfl) noHints 1 noHints_ok (fun z => (by kernel_rfl : _ = t_spec_l00In (fun b => some (k_spec_l00In.enc b)) z.1 z.2.1 z.2.2.1).trans (nat_spec_l00In _ z.1 z.2.1 z.2.2.1))

/-! ### F71 spec.l25Sizes -/
def T_spec_l25Sizes : List (FuncId × Contract) := [(43, k_spec_l00In)]
abbrev s_spec_l25Sizes_6 : LS := ⟨[(false, [(.sl (.int .i64))]), (false, [(.int .i64)]), (false, [(.int .i64)])], [], []⟩
abbrev e_spec_l25Sizes_6_0 : LS := ⟨[(false, [.bool]), (false, [(.int .i64)])], [], []⟩
abbrev d_spec_l25Sizes_6_0 (v0 : Bool) (v1 : Int) := ((((v0, ()), (v1, ()), ()), (), ()) : e_spec_l25Sizes_6_0.T)
abbrev e_spec_l25Sizes_6_1 : LS := ⟨[(false, [.undef]), (false, [(.int .i64)])], [], []⟩
abbrev d_spec_l25Sizes_6_1 (v0 : Int) := (((((), ()), (v0, ()), ()), (), ()) : e_spec_l25Sizes_6_1.T)
abbrev x_spec_l25Sizes_6 : List (Ex × LS) := [(.ret, e_spec_l25Sizes_6_0), (.exit 0, e_spec_l25Sizes_6_1)]
abbrev m_spec_l25Sizes_6 (x0 : List Int) (x3 : Int) (x4 : Int) := ((((x0, ()), (x3, ()), (x4, ()), ()), (), ()) : s_spec_l25Sizes_6.T)
def u_spec_l25Sizes_6 {R : Type} (nx : s_spec_l25Sizes_6.T → Option R) (hx : exH R x_spec_l25Sizes_6) (x0 : List Int) (x3 : Int) (x4 : Int) : Option R :=
  cond (decide (x4 < (((List.length x0) : Nat) : Int)))
  (Option.bind (idx x0 x4) fun y274 =>
   Option.bind (g_spec_l00In y274 (1 : Int) (1000 : Int)) fun y275 =>
   cond (!y275)
   (hx.1 (d_spec_l25Sizes_6_0 Bool.false x3))
   (Option.bind (idx x0 x4) fun y276 =>
    nx (m_spec_l25Sizes_6 x0 (IntKind.wrap IntKind.i64 (x3 + y276)) (IntKind.wrap IntKind.i64 (x4 + (1 : Int))))))
  (hx.2.1 (d_spec_l25Sizes_6_1 x3))
def t_spec_l25Sizes_6 {R : Type} (nx : s_spec_l25Sizes_6.T → Option R) (hx : exH R x_spec_l25Sizes_6) (z : s_spec_l25Sizes_6.T) : Option R := u_spec_l25Sizes_6 nx hx z.1.1.1 z.1.2.1.1 z.1.2.2.1.1
theorem nat_spec_l25Sizes_6 : Natural @t_spec_l25Sizes_6 := fun R nx hx z => by
  show u_spec_l25Sizes_6 nx hx z.1.1.1 z.1.2.1.1 z.1.2.2.1.1 = (u_spec_l25Sizes_6 (fun y => some (.inl y)) (hIn x_spec_l25Sizes_6 fun x => some (.inr x)) z.1.1.1 z.1.2.1.1 z.1.2.2.1.1).bind (goOn nx hx)
  unfold u_spec_l25Sizes_6
  exact nat_cond (nat_bind fun _ => nat_bind fun _ => nat_cond (rfl) (nat_bind fun _ => rfl)) (rfl)
def w_spec_l25Sizes_6 : s_spec_l25Sizes_6.T → Option (exT x_spec_l25Sizes_6) := wOf @t_spec_l25Sizes_6
theorem wq_spec_l25Sizes_6 x0 x3 x4 : w_spec_l25Sizes_6 (m_spec_l25Sizes_6 x0 x3 x4) = u_spec_l25Sizes_6 w_spec_l25Sizes_6 (hIn x_spec_l25Sizes_6 some) x0 x3 x4 := wOf_eq nat_spec_l25Sizes_6 _
def lh_spec_l25Sizes_6 : LoopHint := ⟨[0, 3, 4], [], [2, 3], []⟩
def h_spec_l25Sizes : Hints Rv := ⟨fun k => match k with | 6 => lh_spec_l25Sizes_6 | _ => ⟨[], [], [], []⟩, fun k => match k with | 6 => some (loopX s_spec_l25Sizes_6 x_spec_l25Sizes_6 w_spec_l25Sizes_6) | _ => none⟩
theorem st_spec_l25Sizes_6 (n : Nat) (z : s_spec_l25Sizes_6.T) (k : Ex → Live → Option Rv) : loopN ⟨29, 29⟩ lh_spec_l25Sizes_6 (den (tab C0 T_spec_l25Sizes) ⟨29, 29⟩ h_spec_l25Sizes 1 (loopOf Try.f71 5)) (n + 1) (s_spec_l25Sizes_6.enc z) k =
    t_spec_l25Sizes_6 (fun y => loopN ⟨29, 29⟩ lh_spec_l25Sizes_6 (den (tab C0 T_spec_l25Sizes) ⟨29, 29⟩ h_spec_l25Sizes 1 (loopOf Try.f71 5)) n (s_spec_l25Sizes_6.enc y) k) (hK k x_spec_l25Sizes_6) z := by kernel_rfl
theorem hs_spec_l25Sizes : HintsOk (tab C0 T_spec_l25Sizes) ⟨29, 29⟩ h_spec_l25Sizes 1 (loops (codeOf Try.f71)) := by
  have hl : loops (codeOf Try.f71) = [loopOf Try.f71 5] := by kernel_rfl
  rw [hl]
  exact HintsOk.cons (n := 6) (lh := lh_spec_l25Sizes_6) (S := loopX s_spec_l25Sizes_6 x_spec_l25Sizes_6 w_spec_l25Sizes_6) (by kernel_rfl) rfl rfl (loopX_ok nat_spec_l25Sizes_6 st_spec_l25Sizes_6)
    (HintsOk.nil)
def t_spec_l25Sizes {R : Type} (kx : Bool → Option R) (a0 : (List Int)) : Option R :=
  Option.bind (g_spec_l00In (((List.length a0) : Nat) : Int) (1 : Int) (14 : Int)) fun y270 =>
  cond (!y270)
  (kx Bool.false)
  (Option.bind (w_spec_l25Sizes_6 (m_spec_l25Sizes_6 a0 (0 : Int) (0 : Int))) (exC x_spec_l25Sizes_6
   (fun e277 =>
    kx (e277.1.1.1 : Bool), fun e280 =>
    kx (decide ((e280.1.2.1.1 : Int) ≤ (1000 : Int))), ())))
def g_spec_l25Sizes (a0 : (List Int)) : Option (Bool) := t_spec_l25Sizes some a0
theorem nat_spec_l25Sizes {R} kx a0 : @t_spec_l25Sizes R kx a0 = (g_spec_l25Sizes a0).bind kx := by
  unfold g_spec_l25Sizes t_spec_l25Sizes
  exact nat_bind fun _ => nat_cond (rfl) (nat_exC ⟨fun _ => rfl, fun _ => rfl, trivial⟩)
abbrev k_spec_l25Sizes : Contract := .fx [.val false (.slice (.int .i64))] (Bool) (fun z => g_spec_l25Sizes z.1) (fun b => (.one ⟨false, [(.v (.bool b))]⟩, []))
theorem so_spec_l25Sizes : Sound C0 71 k_spec_l25Sizes :=
  Sound.fx (e := false) (t := T_spec_l25Sizes) (.cons so_spec_l00In (.nil)) mixed Try.func71 (by kernel_rfl) (by kernel_rfl) h_spec_l25Sizes 1 hs_spec_l25Sizes (fun z => (by kernel_rfl : _ = t_spec_l25Sizes (fun b => some (k_spec_l25Sizes.enc b)) z.1).trans (nat_spec_l25Sizes _ z.1))

/-! ### F37 spec.l25Ok -/
def T_spec_l25Ok : List (FuncId × Contract) := [(71, k_spec_l25Sizes), (43, k_spec_l00In)]
abbrev s_spec_l25Ok_5 : LS := ⟨[(false, [(.ptr 42 0)]), (false, [(.int .i64)])], [(true, [(.sl (.int .i64)), (.sl (.int .i64))])], []⟩
abbrev e_spec_l25Ok_5_0 : LS := ⟨[(false, [.bool])], [], []⟩
abbrev d_spec_l25Ok_5_0 (v0 : Bool) := ((((v0, ()), ()), (), ()) : e_spec_l25Ok_5_0.T)
abbrev e_spec_l25Ok_5_1 : LS := ⟨[(false, [.undef])], [], []⟩
abbrev d_spec_l25Ok_5_1 := (((((), ()), ()), (), ()) : e_spec_l25Ok_5_1.T)
abbrev x_spec_l25Ok_5 : List (Ex × LS) := [(.ret, e_spec_l25Ok_5_0), (.exit 0, e_spec_l25Ok_5_1)]
abbrev m_spec_l25Ok_5 (x3 : Int) (b0_0 : List Int) (b0_1 : List Int) := (((((), ()), (x3, ()), ()), ((b0_0, b0_1, ()), ()), ()) : s_spec_l25Ok_5.T)
def u_spec_l25Ok_5 {R : Type} (nx : s_spec_l25Ok_5.T → Option R) (hx : exH R x_spec_l25Ok_5) (x3 : Int) (b0_0 : List Int) (b0_1 : List Int) : Option R :=
  cond (decide (x3 < (((List.length b0_1) : Nat) : Int)))
  (Option.bind (idx b0_1 x3) fun y286 =>
   Option.bind (g_spec_l00In y286 (2 : Int) (3 : Int)) fun y287 =>
   cond (!y287)
   (hx.1 (d_spec_l25Ok_5_0 Bool.false))
   (nx (m_spec_l25Ok_5 (IntKind.wrap IntKind.i64 (x3 + (1 : Int))) b0_0 b0_1)))
  (hx.2.1 (d_spec_l25Ok_5_1))
def t_spec_l25Ok_5 {R : Type} (nx : s_spec_l25Ok_5.T → Option R) (hx : exH R x_spec_l25Ok_5) (z : s_spec_l25Ok_5.T) : Option R := u_spec_l25Ok_5 nx hx z.1.2.1.1 z.2.1.1.1 z.2.1.1.2.1
theorem nat_spec_l25Ok_5 : Natural @t_spec_l25Ok_5 := fun R nx hx z => by
  show u_spec_l25Ok_5 nx hx z.1.2.1.1 z.2.1.1.1 z.2.1.1.2.1 = (u_spec_l25Ok_5 (fun y => some (.inl y)) (hIn x_spec_l25Ok_5 fun x => some (.inr x)) z.1.2.1.1 z.2.1.1.1 z.2.1.1.2.1).bind (goOn nx hx)
  unfold u_spec_l25Ok_5
  exact nat_cond (nat_bind fun _ => nat_bind fun _ => nat_cond (rfl) (rfl)) (rfl)
def w_spec_l25Ok_5 : s_spec_l25Ok_5.T → Option (exT x_spec_l25Ok_5) := wOf @t_spec_l25Ok_5
theorem wq_spec_l25Ok_5 x3 b0_0 b0_1 : w_spec_l25Ok_5 (m_spec_l25Ok_5 x3 b0_0 b0_1) = u_spec_l25Ok_5 w_spec_l25Ok_5 (hIn x_spec_l25Ok_5 some) x3 b0_0 b0_1 := wOf_eq nat_spec_l25Ok_5 _
def lh_spec_l25Ok_5 : LoopHint := ⟨[0, 3], [42], [2], []⟩
def h_spec_l25Ok : Hints Rv := ⟨fun k => match k with | 5 => lh_spec_l25Ok_5 | _ => ⟨[], [], [], []⟩, fun k => match k with | 5 => some (loopX s_spec_l25Ok_5 x_spec_l25Ok_5 w_spec_l25Ok_5) | _ => none⟩
theorem st_spec_l25Ok_5 (n : Nat) (z : s_spec_l25Ok_5.T) (k : Ex → Live → Option Rv) : loopN ⟨42, 43⟩ lh_spec_l25Ok_5 (den (tab C0 T_spec_l25Ok) ⟨42, 43⟩ h_spec_l25Ok 1 (loopOf Try.f37 4)) (n + 1) (s_spec_l25Ok_5.enc z) k =
    t_spec_l25Ok_5 (fun y => loopN ⟨42, 43⟩ lh_spec_l25Ok_5 (den (tab C0 T_spec_l25Ok) ⟨42, 43⟩ h_spec_l25Ok 1 (loopOf Try.f37 4)) n (s_spec_l25Ok_5.enc y) k) (hK k x_spec_l25Ok_5) z := by kernel_rfl
theorem hs_spec_l25Ok : HintsOk (tab C0 T_spec_l25Ok) ⟨42, 43⟩ h_spec_l25Ok 1 (loops (codeOf Try.f37)) := by
  have hl : loops (codeOf Try.f37) = [loopOf Try.f37 4] := by kernel_rfl
  rw [hl]
  exact HintsOk.cons (n := 5) (lh := lh_spec_l25Ok_5) (S := loopX s_spec_l25Ok_5 x_spec_l25Ok_5 w_spec_l25Ok_5) (by kernel_rfl) rfl rfl (loopX_ok nat_spec_l25Ok_5 st_spec_l25Ok_5)
    (HintsOk.nil)
def t_spec_l25Ok {R : Type} (kx : Bool → Option R) (a0 : ((List Int) × (List Int))) : Option R :=
  Option.bind (g_spec_l25Sizes a0.1) fun y282 =>
  cond (!y282)
  (kx Bool.false)
  (cond ((((List.length a0.2) : Nat) : Int) != (IntKind.wrap IntKind.i64 ((((List.length a0.1) : Nat) : Int) - (1 : Int))))
   (kx Bool.false)
   (Option.bind (w_spec_l25Ok_5 (m_spec_l25Ok_5 (0 : Int) a0.1 a0.2)) (exC x_spec_l25Ok_5
    (fun e288 =>
     kx (e288.1.1.1 : Bool), fun _ =>
     kx Bool.true, ()))))
def g_spec_l25Ok (a0 : ((List Int) × (List Int))) : Option (Bool) := t_spec_l25Ok some a0
theorem nat_spec_l25Ok {R} kx a0 : @t_spec_l25Ok R kx a0 = (g_spec_l25Ok a0).bind kx := by
  unfold g_spec_l25Ok t_spec_l25Ok
  exact nat_bind fun _ => nat_cond (rfl) (nat_cond (rfl) (nat_exC ⟨fun _ => rfl, fun _ => rfl, trivial⟩))
abbrev k_spec_l25Ok : Contract := .fx [.ptr (.pair (.slice (.int .i64)) (.slice (.int .i64)))] (Bool) (fun z => g_spec_l25Ok z.1) (fun b => (.one ⟨false, [(.v (.bool b))]⟩, []))
theorem so_spec_l25Ok : Sound C0 37 k_spec_l25Ok :=
  Sound.fx (e := false) (t := T_spec_l25Ok) (.cons so_spec_l25Sizes (.cons so_spec_l00In (.nil))) mixed Try.func37 (by kernel_rfl) (by kernel_rfl) h_spec_l25Ok 1 hs_spec_l25Ok (fun z => (by kernel_rfl : _ = t_spec_l25Ok (fun b => some (k_spec_l25Ok.enc b)) z.1).trans (nat_spec_l25Ok _ z.1))

/-! ### F10 spec.ValidStrip -/
def t_spec_ValidStrip {R : Type} (kx : Bool → Option R) (a0 : ((List Int) × (List Int))) : Option R :=
  Option.bind (g_spec_l25Ok a0) fun y291 =>
  kx y291
def g_spec_ValidStrip (a0 : ((List Int) × (List Int))) : Option (Bool) := t_spec_ValidStrip some a0
theorem nat_spec_ValidStrip {R} kx a0 : @t_spec_ValidStrip R kx a0 = (g_spec_ValidStrip a0).bind kx := by
  unfold g_spec_ValidStrip t_spec_ValidStrip
  exact nat_bind fun _ => rfl
abbrev k_spec_ValidStrip : Contract := .fx [.val true (.pair (.slice (.int .i64)) (.slice (.int .i64)))] (Bool) (fun z => g_spec_ValidStrip z.1) (fun b => (.one ⟨false, [(.v (.bool b))]⟩, []))
theorem so_spec_ValidStrip : Sound C0 10 k_spec_ValidStrip :=
  Sound.fx (e := false) (.cons so_spec_l25Ok (.nil)) mixed Try.func10 (by kernel_rfl) (by kernel_rfl) noHints 1 noHints_ok (fun z => (by kernel_rfl : _ = t_spec_ValidStrip (fun b => some (k_spec_ValidStrip.enc b)) z.1).trans (nat_spec_ValidStrip _ z.1))

/-! ### F38 (impl.Strip).isFlat -/
def t_impl_Strip_isFlat {R : Type} (kx : Bool → Option R) (a0 : ((List Int) × (List Int))) : Option R :=
  Option.bind (g_impl_Strip_reduce a0) fun y296 =>
  kx ((((List.length y296.2.1) : Nat) : Int) == (1 : Int))
def g_impl_Strip_isFlat (a0 : ((List Int) × (List Int))) : Option (Bool) := t_impl_Strip_isFlat some a0
theorem nat_impl_Strip_isFlat {R} kx a0 : @t_impl_Strip_isFlat R kx a0 = (g_impl_Strip_isFlat a0).bind kx := by
  unfold g_impl_Strip_isFlat t_impl_Strip_isFlat
  exact nat_bind fun _ => rfl
abbrev k_impl_Strip_isFlat : Contract := .fx [.val true (.pair (.slice (.int .i64)) (.slice (.int .i64)))] (Bool) (fun z => g_impl_Strip_isFlat z.1) (fun b => (.one ⟨false, [(.v (.bool b))]⟩, []))
theorem so_impl_Strip_isFlat : Sound C0 38 k_impl_Strip_isFlat :=
  Sound.fx (e := false) (.cons so_impl_Strip_reduce (.nil)) mixed Try.func38 (by kernel_rfl) (by kernel_rfl) noHints 1 noHints_ok (fun z => (by kernel_rfl : _ = t_impl_Strip_isFlat (fun b => some (k_impl_Strip_isFlat.enc b)) z.1).trans (nat_impl_Strip_isFlat _ z.1))

/-! ### F11 impl.StripFlat -/
def t_impl_StripFlat {R : Type} (kx : Bool → Option R) (a0 : ((List Int) × (List Int))) : Option R :=
  Option.bind (g_impl_ValidStrip a0) fun y294 =>
  cond y294
  (Option.bind (g_impl_Strip_isFlat a0) fun y297 =>
   kx y297)
  (kx Bool.false)
def g_impl_StripFlat (a0 : ((List Int) × (List Int))) : Option (Bool) := t_impl_StripFlat some a0
theorem nat_impl_StripFlat {R} kx a0 : @t_impl_StripFlat R kx a0 = (g_impl_StripFlat a0).bind kx := by
  unfold g_impl_StripFlat t_impl_StripFlat
  exact nat_bind fun _ => nat_cond (nat_bind fun _ => rfl) (rfl)
abbrev k_impl_StripFlat : Contract := .fx [.val true (.pair (.slice (.int .i64)) (.slice (.int .i64)))] (Bool) (fun z => g_impl_StripFlat z.1) (fun b => (.one ⟨false, [(.v (.bool b))]⟩, []))
theorem so_impl_StripFlat : Sound C0 11 k_impl_StripFlat :=
  Sound.fx (e := false) (.cons so_impl_ValidStrip (.cons so_impl_Strip_isFlat (.nil))) mixed Try.func11 (by kernel_rfl) (by kernel_rfl) noHints 1 noHints_ok (fun z => (by kernel_rfl : _ = t_impl_StripFlat (fun b => some (k_impl_StripFlat.enc b)) z.1).trans (nat_impl_StripFlat _ z.1))

/-! ### F12 impl.CheckReduction -/
def T_impl_CheckReduction : List (FuncId × Contract) := [(35, k_impl_ValidStrip), (39, k_impl_Strip_isPossible), (40, k_impl_Strip_apply)]
abbrev s_impl_CheckReduction_5 : LS := ⟨[(false, [(.ptr 2 0)]), (false, [(.sl (.pair (.int .i64) (.int .i64)))]), (false, [(.int .i64)]), (false, [(.int .i64)])], [(false, [(.own (.int .i64)), (.own (.int .i64))])], []⟩
abbrev e_impl_CheckReduction_5_0 : LS := ⟨[(false, [(.ptr 2 0)]), (false, [.bool])], [(false, [(.own (.int .i64)), (.own (.int .i64))])], []⟩
abbrev d_impl_CheckReduction_5_0 (v0 : Bool) (v1 : List Int) (v2 : List Int) := (((((), ()), (v0, ()), ()), ((v1, v2, ()), ()), ()) : e_impl_CheckReduction_5_0.T)
abbrev e_impl_CheckReduction_5_1 : LS := ⟨[(false, [(.ptr 2 0)]), (false, [.undef])], [(false, [(.own (.int .i64)), (.own (.int .i64))])], []⟩
abbrev d_impl_CheckReduction_5_1 (v0 : List Int) (v1 : List Int) := (((((), ()), ((), ()), ()), ((v0, v1, ()), ()), ()) : e_impl_CheckReduction_5_1.T)
abbrev x_impl_CheckReduction_5 : List (Ex × LS) := [(.ret, e_impl_CheckReduction_5_0), (.exit 0, e_impl_CheckReduction_5_1)]
abbrev m_impl_CheckReduction_5 (x10 : List (Int × Int)) (x11 : Int) (x12 : Int) (b0_0 : List Int) (b0_1 : List Int) := (((((), ()), (x10, ()), (x11, ()), (x12, ()), ()), ((b0_0, b0_1, ()), ()), ()) : s_impl_CheckReduction_5.T)
def u_impl_CheckReduction_5 {R : Type} (nx : s_impl_CheckReduction_5.T → Option R) (hx : exH R x_impl_CheckReduction_5) (x10 : List (Int × Int)) (x11 : Int) (x12 : Int) (b0_0 : List Int) (b0_1 : List Int) : Option R :=
  cond (decide (x12 < x11))
  (Option.bind (idx x10 x12) fun y316 =>
   Option.bind (g_impl_Strip_isPossible (b0_0, b0_1) y316) fun y317 =>
   cond (!y317)
   (hx.1 (d_impl_CheckReduction_5_0 Bool.false b0_0 b0_1))
   (Option.bind (g_impl_Strip_apply (b0_0, b0_1) y316) fun y318 =>
    nx (m_impl_CheckReduction_5 x10 x11 (IntKind.wrap IntKind.i64 (x12 + (1 : Int))) y318.1 y318.2)))
  (hx.2.1 (d_impl_CheckReduction_5_1 b0_0 b0_1))
def t_impl_CheckReduction_5 {R : Type} (nx : s_impl_CheckReduction_5.T → Option R) (hx : exH R x_impl_CheckReduction_5) (z : s_impl_CheckReduction_5.T) : Option R := u_impl_CheckReduction_5 nx hx z.1.2.1.1 z.1.2.2.1.1 z.1.2.2.2.1.1 z.2.1.1.1 z.2.1.1.2.1
theorem nat_impl_CheckReduction_5 : Natural @t_impl_CheckReduction_5 := fun R nx hx z => by
  show u_impl_CheckReduction_5 nx hx z.1.2.1.1 z.1.2.2.1.1 z.1.2.2.2.1.1 z.2.1.1.1 z.2.1.1.2.1 = (u_impl_CheckReduction_5 (fun y => some (.inl y)) (hIn x_impl_CheckReduction_5 fun x => some (.inr x)) z.1.2.1.1 z.1.2.2.1.1 z.1.2.2.2.1.1 z.2.1.1.1 z.2.1.1.2.1).bind (goOn nx hx)
  unfold u_impl_CheckReduction_5
  exact nat_cond (nat_bind fun _ => nat_bind fun _ => nat_cond (rfl) (nat_bind fun _ => rfl)) (rfl)
def w_impl_CheckReduction_5 : s_impl_CheckReduction_5.T → Option (exT x_impl_CheckReduction_5) := wOf @t_impl_CheckReduction_5
theorem wq_impl_CheckReduction_5 x10 x11 x12 b0_0 b0_1 : w_impl_CheckReduction_5 (m_impl_CheckReduction_5 x10 x11 x12 b0_0 b0_1) = u_impl_CheckReduction_5 w_impl_CheckReduction_5 (hIn x_impl_CheckReduction_5 some) x10 x11 x12 b0_0 b0_1 := wOf_eq nat_impl_CheckReduction_5 _
def lh_impl_CheckReduction_5 : LoopHint := ⟨[2, 10, 11, 12], [2], [2, 4], [2]⟩
abbrev s_impl_CheckReduction_5p : LS := ⟨[(false, [(.ptr 2 0)]), (false, [(.sl (.pair (.int .i64) (.int .i64)))]), (false, [(.int .i64)]), (false, [(.int .i64)])], [(false, [(.sl (.int .i64)), (.sl (.int .i64))])], []⟩
abbrev e_impl_CheckReduction_5p_0 : LS := ⟨[(false, [(.ptr 2 0)]), (false, [.bool])], [(false, [(.sl (.int .i64)), (.sl (.int .i64))])], []⟩
abbrev d_impl_CheckReduction_5p_0 (v0 : Bool) (v1 : List Int) (v2 : List Int) := (((((), ()), (v0, ()), ()), ((v1, v2, ()), ()), ()) : e_impl_CheckReduction_5p_0.T)
abbrev e_impl_CheckReduction_5p_1 : LS := ⟨[(false, [(.ptr 2 0)]), (false, [.undef])], [(false, [(.sl (.int .i64)), (.sl (.int .i64))])], []⟩
abbrev d_impl_CheckReduction_5p_1 (v0 : List Int) (v1 : List Int) := (((((), ()), ((), ()), ()), ((v0, v1, ()), ()), ()) : e_impl_CheckReduction_5p_1.T)
abbrev x_impl_CheckReduction_5p : List (Ex × LS) := [(.ret, e_impl_CheckReduction_5p_0), (.exit 0, e_impl_CheckReduction_5p_1)]
abbrev m_impl_CheckReduction_5p (x10 : List (Int × Int)) (x11 : Int) (x12 : Int) (b0_0 : List Int) (b0_1 : List Int) := (((((), ()), (x10, ()), (x11, ()), (x12, ()), ()), ((b0_0, b0_1, ()), ()), ()) : s_impl_CheckReduction_5p.T)
def u_impl_CheckReduction_5p {R : Type} (nx : s_impl_CheckReduction_5.T → Option R) (hx : exH R x_impl_CheckReduction_5p) (x10 : List (Int × Int)) (x11 : Int) (x12 : Int) (b0_0 : List Int) (b0_1 : List Int) : Option R :=
  cond (decide (x12 < x11))
  (Option.bind (idx x10 x12) fun y324 =>
   Option.bind (g_impl_Strip_isPossible (b0_0, b0_1) y324) fun y325 =>
   cond (!y325)
   (hx.1 (d_impl_CheckReduction_5p_0 Bool.false b0_0 b0_1))
   (Option.bind (g_impl_Strip_apply (b0_0, b0_1) y324) fun y326 =>
    nx (m_impl_CheckReduction_5 x10 x11 (IntKind.wrap IntKind.i64 (x12 + (1 : Int))) y326.1 y326.2)))
  (hx.2.1 (d_impl_CheckReduction_5p_1 b0_0 b0_1))
def t_impl_CheckReduction_5p {R : Type} (nx : s_impl_CheckReduction_5.T → Option R) (hx : exH R x_impl_CheckReduction_5p) (z : s_impl_CheckReduction_5p.T) : Option R := u_impl_CheckReduction_5p nx hx z.1.2.1.1 z.1.2.2.1.1 z.1.2.2.2.1.1 z.2.1.1.1 z.2.1.1.2.1
theorem nat_impl_CheckReduction_5p : Natural0 @t_impl_CheckReduction_5p := fun R nx hx z => by
  show u_impl_CheckReduction_5p nx hx z.1.2.1.1 z.1.2.2.1.1 z.1.2.2.2.1.1 z.2.1.1.1 z.2.1.1.2.1 = (u_impl_CheckReduction_5p (fun y => some (.inl y)) (hIn x_impl_CheckReduction_5p fun x => some (.inr x)) z.1.2.1.1 z.1.2.2.1.1 z.1.2.2.2.1.1 z.2.1.1.1 z.2.1.1.2.1).bind (goOn nx hx)
  unfold u_impl_CheckReduction_5p
  exact nat_cond (nat_bind fun _ => nat_bind fun _ => nat_cond (rfl) (nat_bind fun _ => rfl)) (rfl)
theorem tq_impl_CheckReduction_5p {R : Type} (nx : s_impl_CheckReduction_5.T → Option R) (hx : exH R x_impl_CheckReduction_5p) x10 x11 x12 b0_0 b0_1 : t_impl_CheckReduction_5p nx hx (m_impl_CheckReduction_5p x10 x11 x12 b0_0 b0_1) = u_impl_CheckReduction_5p nx hx x10 x11 x12 b0_0 b0_1 := rfl
def h_impl_CheckReduction : Hints Rv := ⟨fun k => match k with | 5 => lh_impl_CheckReduction_5 | _ => ⟨[], [], [], []⟩, fun k => match k with | 5 => some (loopP @t_impl_CheckReduction_5p (loopX s_impl_CheckReduction_5 x_impl_CheckReduction_5 w_impl_CheckReduction_5)) | _ => none⟩
theorem st_impl_CheckReduction_5 (n : Nat) (z : s_impl_CheckReduction_5.T) (k : Ex → Live → Option Rv) : loopN ⟨28, 28⟩ lh_impl_CheckReduction_5 (den (tab C0 T_impl_CheckReduction) ⟨28, 28⟩ h_impl_CheckReduction 1 (loopOf Try.f12 4)) (n + 1) (s_impl_CheckReduction_5.enc z) k =
    t_impl_CheckReduction_5 (fun y => loopN ⟨28, 28⟩ lh_impl_CheckReduction_5 (den (tab C0 T_impl_CheckReduction) ⟨28, 28⟩ h_impl_CheckReduction 1 (loopOf Try.f12 4)) n (s_impl_CheckReduction_5.enc y) k) (hK k x_impl_CheckReduction_5) z := by kernel_rfl
theorem st_impl_CheckReduction_5p (n : Nat) (z : s_impl_CheckReduction_5p.T) (k : Ex → Live → Option Rv) : loopN ⟨28, 28⟩ lh_impl_CheckReduction_5 (den (tab C0 T_impl_CheckReduction) ⟨28, 28⟩ h_impl_CheckReduction 1 (loopOf Try.f12 4)) (n + 1) (s_impl_CheckReduction_5p.enc z) k =
    t_impl_CheckReduction_5p (fun y => loopN ⟨28, 28⟩ lh_impl_CheckReduction_5 (den (tab C0 T_impl_CheckReduction) ⟨28, 28⟩ h_impl_CheckReduction 1 (loopOf Try.f12 4)) n (s_impl_CheckReduction_5.enc y) k) (hK k x_impl_CheckReduction_5p) z := by kernel_rfl
theorem hs_impl_CheckReduction : HintsOk (tab C0 T_impl_CheckReduction) ⟨28, 28⟩ h_impl_CheckReduction 1 (loops (codeOf Try.f12)) := by
  have hl : loops (codeOf Try.f12) = [loopOf Try.f12 4] := by kernel_rfl
  rw [hl]
  exact HintsOk.cons (n := 5) (lh := lh_impl_CheckReduction_5) (S := loopP @t_impl_CheckReduction_5p (loopX s_impl_CheckReduction_5 x_impl_CheckReduction_5 w_impl_CheckReduction_5)) (by kernel_rfl) rfl rfl (loopP_ok nat_impl_CheckReduction_5p st_impl_CheckReduction_5p (loopX_ok nat_impl_CheckReduction_5 st_impl_CheckReduction_5))
    (HintsOk.nil)
def t_impl_CheckReduction {R : Type} (kx : Bool → Option R) (a0 : ((List Int) × (List Int))) (a1 : (List (Int × Int))) : Option R :=
  Option.bind (g_impl_ValidStrip a0) fun y302 =>
  cond (!y302)
  (kx Bool.false)
  (t_impl_CheckReduction_5p (fun z => Option.bind (w_impl_CheckReduction_5 z) (exC x_impl_CheckReduction_5
   (fun e334 =>
    kx (e334.1.2.1.1 : Bool), fun e338 =>
    kx ((((List.length (e338.2.1.1.1 : List Int)) : Nat) : Int) == (1 : Int)), ())))
   (fun e327 =>
    kx (e327.1.2.1.1 : Bool), fun e331 =>
    kx ((((List.length (e331.2.1.1.1 : List Int)) : Nat) : Int) == (1 : Int)), ()) (m_impl_CheckReduction_5p a1 (((List.length a1) : Nat) : Int) (0 : Int) a0.1 a0.2))
def g_impl_CheckReduction (a0 : ((List Int) × (List Int))) (a1 : (List (Int × Int))) : Option (Bool) := t_impl_CheckReduction some a0 a1
theorem nat_impl_CheckReduction {R} kx a0 a1 : @t_impl_CheckReduction R kx a0 a1 = (g_impl_CheckReduction a0 a1).bind kx := by
  unfold g_impl_CheckReduction t_impl_CheckReduction
  exact nat_bind fun _ => nat_cond (rfl) (nat_peel nat_impl_CheckReduction_5p (by exact fun _ => nat_exC ⟨fun _ => rfl, fun _ => rfl, trivial⟩) (by exact ⟨fun _ => rfl, fun _ => rfl, trivial⟩) _)
abbrev k_impl_CheckReduction : Contract := .fx [.val true (.pair (.slice (.int .i64)) (.slice (.int .i64))), .val false (.slice (.pair (.int .i64) (.int .i64)))] (Bool) (fun z => g_impl_CheckReduction z.1 z.2.1) (fun b => (.one ⟨false, [(.v (.bool b))]⟩, []))
theorem so_impl_CheckReduction : Sound C0 12 k_impl_CheckReduction :=
  Sound.fx (e := false) (t := T_impl_CheckReduction) (.cons so_impl_ValidStrip (.cons so_impl_Strip_isPossible (.cons so_impl_Strip_apply (.nil)))) mixed Try.func12 (by kernel_rfl) (by kernel_rfl) h_impl_CheckReduction 1 hs_impl_CheckReduction (fun z => (by kernel_rfl : _ = t_impl_CheckReduction (fun b => some (k_impl_CheckReduction.enc b)) z.1 z.2.1).trans (nat_impl_CheckReduction _ z.1 z.2.1))

/-! ### F13 impl.StepsOf -/
def t_impl_StepsOf {R : Type} (kx : (List (Int × Int)) → Option R) (a0 : ((List Int) × (List Int))) : Option R :=
  Option.bind (g_impl_ValidStrip a0) fun y343 =>
  cond (!y343)
  (kx [])
  (Option.bind (g_impl_Strip_steps a0) fun y344 =>
   kx y344)
def g_impl_StepsOf (a0 : ((List Int) × (List Int))) : Option ((List (Int × Int))) := t_impl_StepsOf some a0
theorem nat_impl_StepsOf {R} kx a0 : @t_impl_StepsOf R kx a0 = (g_impl_StepsOf a0).bind kx := by
  unfold g_impl_StepsOf t_impl_StepsOf
  exact nat_bind fun _ => nat_cond (rfl) (nat_bind fun _ => rfl)
abbrev k_impl_StepsOf : Contract := .fx [.val true (.pair (.slice (.int .i64)) (.slice (.int .i64)))] ((List (Int × Int))) (fun z => g_impl_StepsOf z.1) (fun b => (.one ⟨false, [(.own (.pair (.int .i64) (.int .i64)) b)]⟩, []))
theorem so_impl_StepsOf : Sound C0 13 k_impl_StepsOf :=
  Sound.fx (e := false) (.cons so_impl_ValidStrip (.cons so_impl_Strip_steps (.nil))) mixed Try.func13 (by kernel_rfl) (by kernel_rfl) noHints 1 noHints_ok (fun z => (by kernel_rfl : _ = t_impl_StepsOf (fun b => some (k_impl_StepsOf.enc b)) z.1).trans (nat_impl_StepsOf _ z.1))

/-! ### F15 laws.b10At -/
def t_laws_b10At {R : Type} (kx : Int → Option R) (a0 : (List Int)) (a1 : Int) (a2 : Int) : Option R :=
  cond (decide (a2 ≤ (1 : Int)))
  (kx (0 : Int))
  (cond (decide (a1 < (((List.length a0) : Nat) : Int)))
   (Option.bind (idx a0 a1) fun y349 =>
    cond (decide (a2 = (0 : Int)))
    (none)
    (kx (Int.tmod (IntKind.wrap IntKind.i64 y349) a2)))
   (cond (decide (a2 = (0 : Int)))
    (none)
    (kx (Int.tmod (IntKind.wrap IntKind.i64 ((IntKind.wrap IntKind.i64 (a1 * (37 : Int))) + (11 : Int))) a2))))
def g_laws_b10At (a0 : (List Int)) (a1 : Int) (a2 : Int) : Option (Int) := t_laws_b10At some a0 a1 a2
theorem nat_laws_b10At {R} kx a0 a1 a2 : @t_laws_b10At R kx a0 a1 a2 = (g_laws_b10At a0 a1 a2).bind kx := by
  unfold g_laws_b10At t_laws_b10At
  exact nat_cond (rfl) (nat_cond (nat_bind fun _ => nat_cond (rfl) (rfl)) (nat_cond (rfl) (rfl)))
abbrev k_laws_b10At : Contract := .fx [.val false (.slice (.int .u8)), .val false (.int .i64), .val false (.int .i64)] (Int) (fun z => g_laws_b10At z.1 z.2.1 z.2.2.1) (fun b => (.one ⟨false, [(.v (.int .i64 b))]⟩, []))
theorem so_laws_b10At : Sound C0 15 k_laws_b10At :=
  Sound.fx (e := false) (.nil) mixed Try.func15 (by kernel_rfl) (by kernel_rfl) noHints 1 noHints_ok (fun z => (by kernel_rfl : _ = t_laws_b10At (fun b => some (k_laws_b10At.enc b)) z.1 z.2.1 z.2.2.1).trans (nat_laws_b10At _ z.1 z.2.1 z.2.2.1))

/-! ### F14 impl.ApplyStrip -/
def t_impl_ApplyStrip {R : Type} (kx : ((List Int) × (List Int)) × Int → Option R) (a0 : ((List Int) × (List Int))) (a1 : (Int × Int)) : Option R :=
  Option.bind (g_impl_ValidStrip a0) fun y354 =>
  cond (!y354)
  (kx (([], []), (1 : Int)))
  (Option.bind (g_impl_Strip_isPossible a0 a1) fun y355 =>
   cond (!y355)
   (kx (([], []), (9 : Int)))
   (Option.bind (g_impl_Strip_apply a0 a1) fun y356 =>
    kx (y356, (0 : Int))))
def g_impl_ApplyStrip (a0 : ((List Int) × (List Int))) (a1 : (Int × Int)) : Option (((List Int) × (List Int)) × Int) := t_impl_ApplyStrip some a0 a1
theorem nat_impl_ApplyStrip {R} kx a0 a1 : @t_impl_ApplyStrip R kx a0 a1 = (g_impl_ApplyStrip a0 a1).bind kx := by
  unfold g_impl_ApplyStrip t_impl_ApplyStrip
  exact nat_bind fun _ => nat_cond (rfl) (nat_bind fun _ => nat_cond (rfl) (nat_bind fun _ => rfl))
abbrev k_impl_ApplyStrip : Contract := .fx [.val true (.pair (.slice (.int .i64)) (.slice (.int .i64))), .val true (.pair (.int .i64) (.int .i64))] (((List Int) × (List Int)) × Int) (fun z => g_impl_ApplyStrip z.1 z.2.1) (fun b => (.tup [⟨true, [(.own (.int .i64) b.1.1), (.own (.int .i64) b.1.2)]⟩, ⟨false, [(.v (.int .i64 b.2))]⟩], []))
theorem so_impl_ApplyStrip : Sound C0 14 k_impl_ApplyStrip :=
  Sound.fx (e := false) (.cons so_impl_ValidStrip (.cons so_impl_Strip_isPossible (.cons so_impl_Strip_apply (.nil)))) mixed Try.func14 (by kernel_rfl) (by kernel_rfl) noHints 1 noHints_ok (fun z => (by kernel_rfl : _ = t_impl_ApplyStrip (fun b => some (k_impl_ApplyStrip.enc b)) z.1 z.2.1).trans (nat_impl_ApplyStrip _ z.1 z.2.1))

/-! ### F3 laws.FnStrips -/
def t_laws_FnStrips {R : Type} (kx : Bool → Option R) (a0 : (List Int)) (a1 : (List Int)) : Option R :=
  Option.bind (g_laws_b10Long a0) fun y3 =>
  cond y3
  (kx Bool.true)
  (Option.bind (g_laws_b10Long a1) fun y4 =>
   cond y4
   (kx Bool.true)
   (Option.bind (g_spec_DrawReduceStrip a0) fun y118 =>
    Option.bind (g_impl_ReduceStrip y118) fun y263 =>
    Option.bind (g_spec_ValidStrip y118) fun y292 =>
    cond (!y292)
    (cond ((((List.length y263.1) : Nat) : Int) == (0 : Int))
     (Option.bind (g_impl_StripFlat y118) fun y298 =>
      kx (!y298))
     (kx Bool.false))
    (Option.bind (g_impl_StripFlat y118) fun y299 =>
     cond (!(y299 == ((((List.length y263.2.1) : Nat) : Int) == (1 : Int))))
     (kx Bool.false)
     (Option.bind (g_impl_CheckReduction y118 y263.1) fun y341 =>
      cond (!(y299 == y341))
      (kx Bool.false)
      (Option.bind (g_impl_StepsOf y118) fun y345 =>
       cond ((((List.length y345) : Nat) : Int) == (0 : Int))
       (kx (y299 == ((((List.length y118.1) : Nat) : Int) == (1 : Int))))
       (Option.bind (g_laws_b10At a1 (0 : Int) (((List.length y345) : Nat) : Int)) fun y350 =>
        Option.bind (idx y345 y350) fun y351 =>
        Option.bind (g_impl_ApplyStrip y118 y351) fun y357 =>
        cond (y357.2 == (0 : Int))
        (Option.bind (g_spec_ValidStrip y357.1) fun y358 =>
         cond y358
         (Option.bind (g_impl_StripFlat y357.1) fun y359 =>
          kx (y359 == y299))
         (kx Bool.false))
        (kx Bool.false)))))))
def g_laws_FnStrips (a0 : (List Int)) (a1 : (List Int)) : Option (Bool) := t_laws_FnStrips some a0 a1
theorem nat_laws_FnStrips {R} kx a0 a1 : @t_laws_FnStrips R kx a0 a1 = (g_laws_FnStrips a0 a1).bind kx := by
  unfold g_laws_FnStrips t_laws_FnStrips
  exact nat_bind fun _ => nat_cond (rfl) (nat_bind fun _ => nat_cond (rfl) (nat_bind fun _ => nat_bind fun _ => nat_bind fun _ => nat_cond (nat_cond (nat_bind fun _ => rfl) (rfl)) (nat_bind fun _ => nat_cond (rfl) (nat_bind fun _ => nat_cond (rfl) (nat_bind fun _ => nat_cond (rfl) (nat_bind fun _ => nat_bind fun _ => nat_bind fun _ => nat_cond (nat_bind fun _ => nat_cond (nat_bind fun _ => rfl) (rfl)) (rfl)))))))
abbrev as_laws_FnStrips : List AX := [.val false (.slice (.int .u8)), .val false (.slice (.int .u8))]
abbrev en_laws_FnStrips : Bool → AV × List CV := fun b => (.one ⟨false, [(.v (.bool b))]⟩, [])
abbrev k_laws_FnStrips : Contract := .fx as_laws_FnStrips (Bool) (fun z => g_laws_FnStrips z.1 z.2.1) en_laws_FnStrips
theorem so_laws_FnStrips : Sound C0 3 k_laws_FnStrips :=
  Sound.fx (e := false) (.cons so_laws_b10Long (.cons so_spec_DrawReduceStrip (.cons so_impl_ReduceStrip (.cons so_spec_ValidStrip (.cons so_impl_StripFlat (.cons so_impl_CheckReduction (.cons so_impl_StepsOf (.cons so_laws_b10At (.cons so_impl_ApplyStrip (.nil)))))))))) mixed Try.func3 (by kernel_rfl) (by kernel_rfl) noHints 1 noHints_ok (fun z => (by kernel_rfl : _ = t_laws_FnStrips (fun b => some (k_laws_FnStrips.enc b)) z.1 z.2.1).trans (nat_laws_FnStrips _ z.1 z.2.1))

end
end Go.Proofs.Ytjfgddmngnkfdaa
