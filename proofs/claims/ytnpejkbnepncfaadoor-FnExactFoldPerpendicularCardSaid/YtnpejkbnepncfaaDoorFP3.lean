/- The plain law on FoldPerpendicular. No conditions. -/
import Derived.Test.YtnpejkbnepncfaaDoorFP2
import Derived.Test.YtnpejkbnepncfaaDoorAL1
namespace Go.Proofs.YtnpejkbnepncfaaDoor
open Go.Vai

def I64 (a : Int) : Prop := -9223372036854775808 ≤ a ∧ a ≤ 9223372036854775807

theorem wI {a : Int} (h : I64 a) : IntKind.wrap .i64 a = a := wrap_id h.1 h.2

theorem tmod2 (a : Int) : (Int.tmod a 2 == 0) = decide (a % 2 = 0) := by
  rw [show (Int.tmod a 2 == 0) = decide (Int.tmod a 2 = 0) by rfl]
  congr 1
  apply propext
  rw [Int.tmod_eq_emod]
  split <;> omega

theorem tmod2n (a : Int) : (Int.tmod a 2 != 0) = decide (a % 2 ≠ 0) := by
  rw [bne, tmod2]
  by_cases h : a % 2 = 0 <;> simp [h]

theorem tdiv2 {a : Int} (h : a % 2 = 0) : Int.tdiv a 2 = a / 2 := by
  rw [Int.tdiv_eq_ediv]
  split <;> omega

theorem and_nat (a : Int) (m : Nat) (hm : m < 18446744073709551616) : (BitVec.toNat ((BitVec.ofInt 64 a) &&& (BitVec.ofInt 64 (m : Int)))) = (a % 18446744073709551616).toNat &&& m := by
  rw [BitVec.toNat_and]
  congr 1
  rw [BitVec.toNat_ofInt]
  omega

theorem and1 (a : Int) : IntKind.wrap IntKind.i64 (((BitVec.toNat ((BitVec.ofInt 64 a) &&& (BitVec.ofInt 64 (1 : Int)))) : Nat) : Int) = a % 2 := by
  have := and_nat a 1 (by omega)
  rw [show ((1 : Nat) : Int) = 1 from rfl] at this
  rw [this, Nat.and_one_is_mod, wrap_id (by omega) (by omega)]
  omega

theorem and7 (a : Int) : IntKind.wrap IntKind.i64 (((BitVec.toNat ((BitVec.ofInt 64 a) &&& (BitVec.ofInt 64 (7 : Int)))) : Nat) : Int) = a % 8 := by
  have := and_nat a 7 (by omega)
  rw [show ((7 : Nat) : Int) = 7 from rfl] at this
  rw [this, show (7 : Nat) = 2 ^ 3 - 1 from rfl, Nat.and_two_pow_sub_one_eq_mod, wrap_id (by omega) (by omega)]
  omega

/-! lowest forms -/
theorem low_zero : ∀ k, low k 0 0 = (0, (0, 0))
  | 0 => rfl
  | k + 1 => by rw [low, if_pos ⟨rfl, rfl⟩]; exact low_zero k

theorem specLow_loop (p q r : Int) : ∀ (k : Nat) (a b : Int), k ≤ 1000 → I64 a → I64 b →
    w_spec_l01Low_4 (m_spec_l01Low_4 a b (k : Int) p q r) = some (.inl (d_spec_l01Low_4_0 (low k a b).1 (low k a b).2.1 (low k a b).2.2 p q r))
  | 0, a, b, hk, ha, hb => by
    rw [wq_spec_l01Low_4, u_spec_l01Low_4, dec_f (by omega), cond_false]; rfl
  | k + 1, a, b, hk, ha, hb => by
    have h1 := ha.1; have h2 := ha.2; have h3 := hb.1; have h4 := hb.2
    rw [wq_spec_l01Low_4, u_spec_l01Low_4, dec_t (by omega), cond_true, tmod2, tmod2, low]
    by_cases h : a % 2 = 0
    · rw [dec_t h, cond_true]
      by_cases h' : b % 2 = 0
      · rw [dec_t h', cond_true, if_pos ⟨h, h'⟩, tdiv2 h, tdiv2 h', wrap_id (n := a / 2) (by omega) (by omega), wrap_id (n := b / 2) (by omega) (by omega), wrap_id (by omega) (by omega),
          show ((k + 1 : Nat) : Int) - 1 = (k : Int) by omega]
        exact specLow_loop p q r k _ _ (by omega) ⟨by omega, by omega⟩ ⟨by omega, by omega⟩
      · rw [dec_f h', cond_false, if_neg (fun e => h' e.2)]; rfl
    · rw [dec_f h, cond_false, if_neg (fun e => h e.1)]; rfl

theorem specLow {a b k : Int} (hk : 0 ≤ k) (hk' : k ≤ 1000) (ha : I64 a) (hb : I64 b) : g_spec_l01Low (a, (b, k)) = some (low k.toNat a b) := by
  have hw := specLow_loop 0 0 0 k.toNat a b (by omega) ha hb
  rw [Int.toNat_of_nonneg hk] at hw
  rw [g_spec_l01Low, t_spec_l01Low]
  simp only
  rw [hw]
  rw [show (a == 0) = decide (a = 0) by rfl, show (b == 0) = decide (b = 0) by rfl]
  by_cases h : a = 0
  · by_cases h' : b = 0
    · subst h; subst h'; rw [low_zero]; rfl
    · rw [dec_t h, dec_f h']; rfl
  · rw [dec_f h]; rfl

theorem implLow_loop (p q r : Int) : ∀ (k : Nat) (a b : Int), k ≤ 1000 → I64 a → I64 b →
    w_impl_Num_reduced_2 (m_impl_Num_reduced_2 a b (k : Int) p q r) = some (.inl (d_impl_Num_reduced_2_0 (low k a b).1 (low k a b).2.1 (low k a b).2.2 p q r))
  | 0, a, b, hk, ha, hb => by
    rw [wq_impl_Num_reduced_2, u_impl_Num_reduced_2, dec_f (by omega), cond_false]; rfl
  | k + 1, a, b, hk, ha, hb => by
    have h1 := ha.1; have h2 := ha.2; have h3 := hb.1; have h4 := hb.2
    rw [wq_impl_Num_reduced_2, u_impl_Num_reduced_2, dec_t (by omega), cond_true, and1, and1, low]
    rw [show (a % 2 == 0) = decide (a % 2 = 0) by rfl, show (b % 2 == 0) = decide (b % 2 = 0) by rfl]
    by_cases h : a % 2 = 0
    · rw [dec_t h, cond_true]
      by_cases h' : b % 2 = 0
      · rw [dec_t h', cond_true, if_pos ⟨h, h'⟩, tdiv2 h, tdiv2 h', wrap_id (n := a / 2) (by omega) (by omega), wrap_id (n := b / 2) (by omega) (by omega), wrap_id (n := ((k + 1 : Nat) : Int) - 1) (by omega) (by omega),
          show ((k + 1 : Nat) : Int) - 1 = (k : Int) by omega]
        have IH := implLow_loop p q r k (a / 2) (b / 2) (by omega) ⟨by omega, by omega⟩ ⟨by omega, by omega⟩
        rw [show (a / 2 == 0) = decide (a / 2 = 0) by rfl, show (b / 2 == 0) = decide (b / 2 = 0) by rfl]
        by_cases e : a / 2 = 0
        · by_cases e' : b / 2 = 0
          · rw [dec_t e, dec_t e', cond_true, cond_true, e, e', low_zero]
            have I0 := implLow_loop p q r 0 0 0 (by omega) ⟨by omega, by omega⟩ ⟨by omega, by omega⟩
            exact I0
          · rw [dec_t e, dec_f e', cond_true, cond_false]; exact IH
        · rw [dec_f e, cond_false]; exact IH
      · rw [dec_f h', cond_false, if_neg (fun e => h' e.2)]; rfl
    · rw [dec_f h, cond_false, if_neg (fun e => h e.1)]; rfl

theorem implLow {a b k : Int} (hk : 0 ≤ k) (hk' : k ≤ 1000) (ha : I64 a) (hb : I64 b) : g_impl_Num_reduced (a, (b, k)) = some (low k.toNat a b) := by
  have hw := implLow_loop 0 0 0 k.toNat a b (by omega) ha hb
  rw [Int.toNat_of_nonneg hk] at hw
  rw [g_impl_Num_reduced, t_impl_Num_reduced]
  simp only
  rw [hw]
  rfl

/-! products -/
theorem mul_facts {V V' : Int} {κ κ' : Nat} {x y : Nm} (hx : Bd V κ x) (hy : Bd V' κ' y) (hV : 0 ≤ V) (h1 : V * 2 ^ κ ≤ 2305843009213693952) (h2 : 3 * (V * V') * 2 ^ (κ + κ') ≤ 4611686018427387904) :
    (I64 (x.1 * y.1) ∧ I64 (2 * x.2.1) ∧ I64 (2 * x.2.1 * y.2.1) ∧ I64 (x.1 * y.1 + 2 * x.2.1 * y.2.1)) ∧ (I64 (x.1 * y.2.1) ∧ I64 (x.2.1 * y.1) ∧ I64 (x.1 * y.2.1 + x.2.1 * y.1)) := by
  have bx := hx.pow_le hV
  obtain ⟨x1, x2, x3, x4⟩ := hx
  obtain ⟨y1, y2, y3, y4⟩ := hy
  have hp : (0 : Int) ≤ 2 ^ x.2.2.toNat := Int.le_of_lt (Int.pow_pos (by decide))
  have aa := prod_bd hV hp x3.1 x3.2 y3.1 y3.2
  have bb := prod_bd hV hp x4.1 x4.2 y4.1 y4.2
  have ab := prod_bd hV hp x3.1 x3.2 y4.1 y4.2
  have ba := prod_bd hV hp x4.1 x4.2 y3.1 y3.2
  have hVV : 0 ≤ V * V' * (2 ^ x.2.2.toNat * 2 ^ y.2.2.toNat) := by omega
  have hV' : 0 ≤ V * V' := by
    have hq : (0 : Int) < 2 ^ x.2.2.toNat * 2 ^ y.2.2.toNat := Int.mul_pos (Int.pow_pos (by decide)) (Int.pow_pos (by decide))
    by_cases h : 0 ≤ V * V'
    · exact h
    · exfalso
      have := Int.mul_neg_of_neg_of_pos (show V * V' < 0 by omega) hq
      omega
  have hle : V * V' * (2 ^ x.2.2.toNat * 2 ^ y.2.2.toNat) ≤ V * V' * 2 ^ (κ + κ') := by
    rw [← Int.pow_add]
    refine Int.mul_le_mul_of_nonneg_left ?_ hV'
    have := Nat.pow_le_pow_right (show 0 < 2 by decide) (show x.2.2.toNat + y.2.2.toNat ≤ κ + κ' by omega)
    exact_mod_cast this
  have h3 : 3 * (V * V' * 2 ^ (κ + κ')) ≤ 4611686018427387904 := by rw [← Int.mul_assoc]; exact h2
  have e2 : 2 * x.2.1 * y.2.1 = 2 * (x.2.1 * y.2.1) := Int.mul_assoc ..
  rw [e2]
  unfold I64
  refine ⟨⟨⟨?_, ?_⟩, ⟨?_, ?_⟩, ⟨?_, ?_⟩, ⟨?_, ?_⟩⟩, ⟨⟨?_, ?_⟩, ⟨?_, ?_⟩, ⟨?_, ?_⟩⟩⟩ <;> omega

theorem mul_ok {V V' : Int} {κ κ' : Nat} {x y : Nm} (hx : Bd V κ x) (hy : Bd V' κ' y) (hV : 0 ≤ V) (hκ : κ + κ' ≤ 1000) (h1 : V * 2 ^ κ ≤ 2305843009213693952) (h2 : 3 * (V * V') * 2 ^ (κ + κ') ≤ 4611686018427387904) :
    g_spec_l01Mul x y = some (mulN x y) ∧ g_impl_Num_times x y = some (mulN x y) := by
  obtain ⟨⟨f1, f2, f3, f4⟩, f5, f6, f7⟩ := mul_facts hx hy hV h1 h2
  have hk1 := hx.1
  have hk2 := hx.2.1
  have hk3 := hy.1
  have hk4 := hy.2.1
  have hk : (x.2.2 + y.2.2).toNat = x.2.2.toNat + y.2.2.toNat := by omega
  constructor
  · rw [g_spec_l01Mul, t_spec_l01Mul]
    rw [wI f1, wI f2, wI f3, wI f4, wI f5, wI f6, wI f7, wrap_id (n := x.2.2 + y.2.2) (by omega) (by omega), specLow (by omega) (by omega) f4 f7, hk]
    rfl
  · rw [g_impl_Num_times, t_impl_Num_times]
    rw [wI f1, wI f2, wI f3, wI f4, wI f5, wI f6, wI f7, wrap_id (n := x.2.2 + y.2.2) (by omega) (by omega), implLow (by omega) (by omega) f4 f7, hk]
    rfl

/-! sums -/
theorem shl_bd {a : Int} {n : Nat} (h1 : -4611686018427387904 ≤ a * 2 ^ (n + 1)) (h2 : a * 2 ^ (n + 1) ≤ 4611686018427387904) : I64 (a * 2) ∧ (-4611686018427387904 ≤ a * 2 * 2 ^ n ∧ a * 2 * 2 ^ n ≤ 4611686018427387904) := by
  have e : a * 2 ^ (n + 1) = a * 2 * 2 ^ n := by rw [Int.pow_succ]; grind
  rw [e] at h1 h2
  have hp : (1 : Int) ≤ 2 ^ n := Int.pow_pos (by decide)
  refine ⟨⟨?_, ?_⟩, h1, h2⟩
  · by_cases h : 0 ≤ a * 2
    · omega
    · have := Int.mul_le_mul_of_nonneg_left hp (show 0 ≤ -(a * 2) by omega)
      rw [Int.neg_mul, Int.neg_mul] at this
      omega
  · by_cases h : 0 ≤ a * 2
    · have := Int.mul_le_mul_of_nonneg_left hp h
      omega
    · omega

theorem specAdd_loop1 (a' b' k' p q r : Int) (hk' : k' ≤ 1000) : ∀ (n : Nat) (a b k : Int), 0 ≤ k → n = (k' - k).toNat → (-4611686018427387904 ≤ a * 2 ^ n ∧ a * 2 ^ n ≤ 4611686018427387904) → (-4611686018427387904 ≤ b * 2 ^ n ∧ b * 2 ^ n ≤ 4611686018427387904) →
    w_spec_l01Add_2 (m_spec_l01Add_2 a b k a' b' k' p q r) = some (.inl (d_spec_l01Add_2_0 (a * 2 ^ n) (b * 2 ^ n) (k + n) a' b' k' p q r))
  | 0, a, b, k, hk, hn, ha, hb => by
    rw [wq_spec_l01Add_2, u_spec_l01Add_2, dec_f (by omega), cond_false]
    simp; rfl
  | n + 1, a, b, k, hk, hn, ha, hb => by
    obtain ⟨ia, ha'⟩ := shl_bd ha.1 ha.2
    obtain ⟨ib, hb'⟩ := shl_bd hb.1 hb.2
    rw [wq_spec_l01Add_2, u_spec_l01Add_2, dec_t (by omega), cond_true, wI ia, wI ib, wrap_id (n := k + 1) (by omega) (by omega)]
    refine (specAdd_loop1 a' b' k' p q r hk' n (a * 2) (b * 2) (k + 1) (by omega) (by omega) ha' hb').trans ?_
    rw [show a * 2 * 2 ^ n = a * 2 ^ (n + 1) by rw [Int.pow_succ]; grind, show b * 2 * 2 ^ n = b * 2 ^ (n + 1) by rw [Int.pow_succ]; grind, show k + 1 + (n : Int) = k + ((n + 1 : Nat) : Int) by omega]

theorem specAdd_loop2 (a' b' k' p q r : Int) (hk' : k' ≤ 1000) : ∀ (n : Nat) (a b k : Int), 0 ≤ k → n = (k' - k).toNat → (-4611686018427387904 ≤ a * 2 ^ n ∧ a * 2 ^ n ≤ 4611686018427387904) → (-4611686018427387904 ≤ b * 2 ^ n ∧ b * 2 ^ n ≤ 4611686018427387904) →
    w_spec_l01Add_6 (m_spec_l01Add_6 a' b' k' a b k p q r) = some (.inl (d_spec_l01Add_6_0 a' b' k' (a * 2 ^ n) (b * 2 ^ n) (k + n) p q r))
  | 0, a, b, k, hk, hn, ha, hb => by
    rw [wq_spec_l01Add_6, u_spec_l01Add_6, dec_f (by omega), cond_false]
    simp; rfl
  | n + 1, a, b, k, hk, hn, ha, hb => by
    obtain ⟨ia, ha'⟩ := shl_bd ha.1 ha.2
    obtain ⟨ib, hb'⟩ := shl_bd hb.1 hb.2
    rw [wq_spec_l01Add_6, u_spec_l01Add_6, dec_t (by omega), cond_true, wI ia, wI ib, wrap_id (n := k + 1) (by omega) (by omega)]
    refine (specAdd_loop2 a' b' k' p q r hk' n (a * 2) (b * 2) (k + 1) (by omega) (by omega) ha' hb').trans ?_
    rw [show a * 2 * 2 ^ n = a * 2 ^ (n + 1) by rw [Int.pow_succ]; grind, show b * 2 * 2 ^ n = b * 2 ^ (n + 1) by rw [Int.pow_succ]; grind, show k + 1 + (n : Int) = k + ((n + 1 : Nat) : Int) by omega]

theorem add_ok {V V' : Int} {κ κ' : Nat} {x y : Nm} (hx : Bd V κ x) (hy : Bd V' κ' y) (hV : 0 ≤ V) (hV' : 0 ≤ V') (hκ : κ ≤ 60) (hκ' : κ' ≤ 60) (h : (V + V') * 2 ^ (max κ κ') ≤ 4611686018427387904) :
    g_spec_l01Add x y = some (addN x y) ∧ g_impl_Num_plus x y = some (addN x y) := by
  obtain ⟨x1, x2, x3, x4⟩ := hx
  obtain ⟨y1, y2, y3, y4⟩ := hy
  have hK : max x.2.2.toNat y.2.2.toNat ≤ max κ κ' := by omega
  have a1 := scale (Nat.le_max_left x.2.2.toNat y.2.2.toNat) x3.1 x3.2
  have a2 := scale (Nat.le_max_left x.2.2.toNat y.2.2.toNat) x4.1 x4.2
  have a3 := scale (Nat.le_max_right x.2.2.toNat y.2.2.toNat) y3.1 y3.2
  have a4 := scale (Nat.le_max_right x.2.2.toNat y.2.2.toNat) y4.1 y4.2
  have hp : (2 : Int) ^ (max x.2.2.toNat y.2.2.toNat) ≤ 2 ^ (max κ κ') := by
    have := Nat.pow_le_pow_right (show 0 < 2 by decide) hK
    exact_mod_cast this
  have e1 := Int.mul_le_mul_of_nonneg_left hp hV
  have e2 := Int.mul_le_mul_of_nonneg_left hp hV'
  have e3 : (V + V') * 2 ^ (max κ κ') = V * 2 ^ (max κ κ') + V' * 2 ^ (max κ κ') := Int.add_mul ..
  have p1 : 0 ≤ V * 2 ^ (max x.2.2.toNat y.2.2.toNat) := Int.mul_nonneg hV (Int.le_of_lt (Int.pow_pos (by decide)))
  have p2 : 0 ≤ V' * 2 ^ (max x.2.2.toNat y.2.2.toNat) := Int.mul_nonneg hV' (Int.le_of_lt (Int.pow_pos (by decide)))
  have hm : ((max x.2.2.toNat y.2.2.toNat : Nat) : Int) = max x.2.2 y.2.2 := by omega
  have hkx : max x.2.2.toNat y.2.2.toNat - x.2.2.toNat = (y.2.2 - x.2.2).toNat := by omega
  have hky : max x.2.2.toNat y.2.2.toNat - y.2.2.toNat = (x.2.2 - y.2.2).toNat := by omega
  have i1 : I64 (x.1 * 2 ^ (max x.2.2.toNat y.2.2.toNat - x.2.2.toNat) + y.1 * 2 ^ (max x.2.2.toNat y.2.2.toNat - y.2.2.toNat)) := ⟨by omega, by omega⟩
  have i2 : I64 (x.2.1 * 2 ^ (max x.2.2.toNat y.2.2.toNat - x.2.2.toNat) + y.2.1 * 2 ^ (max x.2.2.toNat y.2.2.toNat - y.2.2.toNat)) := ⟨by omega, by omega⟩
  constructor
  · rw [g_spec_l01Add, t_spec_l01Add]
    rw [specAdd_loop1 y.1 y.2.1 y.2.2 0 0 0 (by omega) (y.2.2 - x.2.2).toNat x.1 x.2.1 x.2.2 x1 rfl (by rw [← hkx]; omega) (by rw [← hkx]; omega)]
    simp only [Option.bind_some, exC, x_spec_l01Add_2, x_spec_l01Add_6]
    rw [specAdd_loop2 _ _ _ 0 0 0 (by omega) (x.2.2 - y.2.2).toNat y.1 y.2.1 y.2.2 y1 (by omega) (by rw [← hky]; omega) (by rw [← hky]; omega)]
    simp only [Option.bind_some, exC, x_spec_l01Add_2, x_spec_l01Add_6]
    rw [← hkx, ← hky, wI i1, wI i2, specLow (by omega) (by omega) i1 i2]
    rw [show (x.2.2 + ((max x.2.2.toNat y.2.2.toNat - x.2.2.toNat : Nat) : Int)).toNat = max x.2.2.toNat y.2.2.toNat by omega]
    rfl
  · rw [g_impl_Num_plus, t_impl_Num_plus]
    have hM : (if y.2.2 > x.2.2 then y.2.2 else x.2.2) = ((max x.2.2.toNat y.2.2.toNat : Nat) : Int) := by split <;> omega
    simp only [if_true, hM]
    have w1 : IntKind.wrap IntKind.i64 (((max x.2.2.toNat y.2.2.toNat : Nat) : Int) - x.2.2) = ((max x.2.2.toNat y.2.2.toNat - x.2.2.toNat : Nat) : Int) := by rw [wrap_id (by omega) (by omega)]; omega
    have w2 : IntKind.wrap IntKind.i64 (((max x.2.2.toNat y.2.2.toNat : Nat) : Int) - y.2.2) = ((max x.2.2.toNat y.2.2.toNat - y.2.2.toNat : Nat) : Int) := by rw [wrap_id (by omega) (by omega)]; omega
    rw [w1, w2, dec_f (by omega), dec_f (by omega), Int.toNat_natCast, Int.toNat_natCast]
    simp only [cond_false]
    rw [show min (max x.2.2.toNat y.2.2.toNat - x.2.2.toNat) 64 = max x.2.2.toNat y.2.2.toNat - x.2.2.toNat by omega, show min (max x.2.2.toNat y.2.2.toNat - y.2.2.toNat) 64 = max x.2.2.toNat y.2.2.toNat - y.2.2.toNat by omega]
    rw [wrap_id (n := x.1 * _) (by omega) (by omega), wrap_id (n := y.1 * _) (by omega) (by omega), wrap_id (n := x.2.1 * _) (by omega) (by omega), wrap_id (n := y.2.1 * _) (by omega) (by omega), wI i1, wI i2, implLow (by omega) (by omega) i1 i2, Int.toNat_natCast]
    rfl


/-! what is valid -/
def okN (x : Nm) : Bool := (decide (-131072 ≤ x.1) && decide (x.1 ≤ 131072)) && ((decide (-131072 ≤ x.2.1) && decide (x.2.1 ≤ 131072)) && ((decide (0 ≤ x.2.2) && decide (x.2.2 ≤ 10)) && (decide (x.2.2 = 0) || (decide (x.1 % 2 ≠ 0) || decide (x.2.1 % 2 ≠ 0)))))

theorem in_spec (x a b : Int) : g_spec_l00In x a b = some (decide (a ≤ x) && decide (x ≤ b)) := by
  unfold g_spec_l00In t_spec_l00In
  rw [show decide (x ≥ a) = decide (a ≤ x) from rfl]
  cases decide (a ≤ x) <;> simp
theorem in_impl (x a b : Int) : g_impl_within x a b = some (decide (a ≤ x) && decide (x ≤ b)) := by
  unfold g_impl_within t_impl_within
  rw [show decide (x ≥ a) = decide (a ≤ x) from rfl]
  cases decide (a ≤ x) <;> simp

theorem spec_okN (x : Nm) : g_spec_l01Ok x = some (okN x) := by
  unfold g_spec_l01Ok t_spec_l01Ok okN
  simp only [in_spec, Option.bind_some, tmod2n]
  rw [show (x.2.2 == 0) = decide (x.2.2 = 0) from rfl]
  cases (decide (-131072 ≤ x.1) && decide (x.1 ≤ 131072)) <;> cases (decide (-131072 ≤ x.2.1) && decide (x.2.1 ≤ 131072)) <;> cases (decide (0 ≤ x.2.2) && decide (x.2.2 ≤ 10)) <;> cases decide (x.2.2 = 0) <;> cases decide (x.1 % 2 ≠ 0) <;> simp

theorem odd_one (a : Int) : (a % 2 == 1) = decide (a % 2 ≠ 0) := by
  rw [show (a % 2 == 1) = decide (a % 2 = 1) from rfl]
  congr 1
  apply propext
  omega

theorem impl_okN (x : Nm) : g_impl_ValidNum x = some (okN x) := by
  unfold g_impl_ValidNum t_impl_ValidNum okN
  simp only [in_impl, Option.bind_some, and1, odd_one]
  rw [show (x.2.2 == 0) = decide (x.2.2 = 0) from rfl]
  cases (decide (-131072 ≤ x.1) && decide (x.1 ≤ 131072)) <;> cases (decide (-131072 ≤ x.2.1) && decide (x.2.1 ≤ 131072)) <;> cases (decide (0 ≤ x.2.2) && decide (x.2.2 ≤ 10)) <;> cases decide (x.2.2 = 0) <;> cases decide (x.1 % 2 ≠ 0) <;> simp

abbrev Pt := Nm × Nm
abbrev Ln := Int × Nm

def okL (l : Ln) : Bool := (decide (0 ≤ l.1) && decide (l.1 ≤ 7)) && okN l.2
def okP (p : Pt) : Bool := okN p.1 && okN p.2

theorem spec_okL (l : Ln) : g_spec_l02Line l = some (okL l) := by
  unfold g_spec_l02Line t_spec_l02Line okL
  simp only [in_spec, Option.bind_some, spec_okN]
  cases (decide (0 ≤ l.1) && decide (l.1 ≤ 7)) <;> simp
theorem impl_okL (l : Ln) : g_impl_ValidLine l = some (okL l) := by
  unfold g_impl_ValidLine t_impl_ValidLine okL
  simp only [in_impl, Option.bind_some, impl_okN]
  cases (decide (0 ≤ l.1) && decide (l.1 ≤ 7)) <;> simp

theorem okN_bd {x : Nm} (h : okN x = true) : Bd 131072 10 x := by
  simp only [okN, Bool.and_eq_true, decide_eq_true_eq] at h
  obtain ⟨⟨h1, h2⟩, ⟨h3, h4⟩, ⟨h5, h6⟩, _⟩ := h
  have : (1 : Int) ≤ 2 ^ x.2.2.toNat := Int.pow_pos (by decide)
  exact ⟨h5, by omega, by omega, by omega⟩
theorem okN_can {x : Nm} (h : okN x = true) : x.can := by
  simp only [okN, Bool.and_eq_true, Bool.or_eq_true, decide_eq_true_eq] at h
  obtain ⟨_, _, ⟨h5, h6⟩, h7⟩ := h
  exact ⟨h5, h7⟩

/-! directions -/
def vecs : List Pt := [((1, (0, 0)), (0, (0, 0))), ((1, (0, 0)), (-1, (1, 0))), ((1, (0, 0)), (1, (0, 0))), ((-1, (1, 0)), (1, (0, 0))), ((0, (0, 0)), (1, (0, 0))), ((1, (-1, 0)), (1, (0, 0))), ((-1, (0, 0)), (1, (0, 0))), ((-1, (0, 0)), (-1, (1, 0))),
  ((-1, (0, 0)), (0, (0, 0))), ((-1, (0, 0)), (1, (-1, 0))), ((-1, (0, 0)), (-1, (0, 0))), ((1, (-1, 0)), (-1, (0, 0))), ((0, (0, 0)), (-1, (0, 0))), ((-1, (1, 0)), (-1, (0, 0))), ((1, (0, 0)), (-1, (0, 0))), ((1, (0, 0)), (1, (-1, 0)))]
def vecN (d : Int) : Pt := vecs.getD d.toNat ((0, (0, 0)), (0, (0, 0)))

theorem sixteen {d : Int} (h0 : 0 ≤ d) (h1 : d < 16) : d = 0 ∨ d = 1 ∨ d = 2 ∨ d = 3 ∨ d = 4 ∨ d = 5 ∨ d = 6 ∨ d = 7 ∨ d = 8 ∨ d = 9 ∨ d = 10 ∨ d = 11 ∨ d = 12 ∨ d = 13 ∨ d = 14 ∨ d = 15 := by omega

theorem vec_ok {d : Int} (h0 : 0 ≤ d) (h1 : d < 16) : g_spec_l02Vec d = some (vecN d) ∧ g_impl_vector d = some (vecN d) := by
  rcases sixteen h0 h1 with rfl | rfl | rfl | rfl | rfl | rfl | rfl | rfl | rfl | rfl | rfl | rfl | rfl | rfl | rfl | rfl <;> exact ⟨by kernel_rfl, by kernel_rfl⟩

theorem vec_bd {d : Int} (h0 : 0 ≤ d) (h1 : d < 16) : Bd 1 0 (vecN d).1 ∧ Bd 1 0 (vecN d).2 := by
  rcases sixteen h0 h1 with rfl | rfl | rfl | rfl | rfl | rfl | rfl | rfl | rfl | rfl | rfl | rfl | rfl | rfl | rfl | rfl <;> (unfold Bd; decide)

theorem mod_ok (d : Int) (h0 : -1000 ≤ d) (h1 : d ≤ 1000) : g_spec_l02Mod d = some (d % 16) := by
  unfold g_spec_l02Mod t_spec_l02Mod
  have h2 : -16 < Int.tmod d 16 := by rw [Int.tmod_eq_emod]; split <;> omega
  have h3 : Int.tmod d 16 < 16 := Int.tmod_lt_of_pos d (by decide)
  rw [wrap_id (by omega) (by omega), Int.tmod_eq_emod_of_nonneg (by omega)]
  have : Int.tmod d 16 % 16 = d % 16 := by
    rw [Int.tmod_eq_emod]
    split <;> omega
  congr 1
  omega

/-! products of points -/
def dotN (v p : Pt) : Nm := addN (mulN v.1 p.1) (mulN v.2 p.2)

theorem dotN_bd {V V' : Int} {κ κ' : Nat} {v p : Pt} (hV : 0 ≤ V) (hv : Bd V κ v.1 ∧ Bd V κ v.2) (hp : Bd V' κ' p.1 ∧ Bd V' κ' p.2) : Bd (3 * (V * V') + 3 * (V * V')) (κ + κ') (dotN v p) := by
  have := addN_bd (mulN_bd hV hv.1 hp.1) (mulN_bd hV hv.2 hp.2)
  rw [Nat.max_self] at this
  exact this

theorem dot_ok {V : Int} {κ : Nat} {d : Int} {p : Pt} (h0 : 0 ≤ d) (h1 : d < 16) (hV : 0 ≤ V) (hκ : κ ≤ 60) (hp : Bd V κ p.1 ∧ Bd V κ p.2) (h : 6 * V * 2 ^ κ ≤ 4611686018427387904) :
    g_spec_l02Dot d p = some (dotN (vecN d) p) ∧ g_impl_Point_dot (vecN d) p = some (dotN (vecN d) p) := by
  obtain ⟨hv1, hv2⟩ := vec_bd h0 h1
  have hpw : 0 ≤ V * 2 ^ κ := Int.mul_nonneg hV (Int.le_of_lt (Int.pow_pos (by decide)))
  have e : 6 * V * 2 ^ κ = 6 * (V * 2 ^ κ) := Int.mul_assoc ..
  have k3 : 3 * (1 * V) * 2 ^ (0 + κ) ≤ 4611686018427387904 := by
    rw [Nat.zero_add, Int.one_mul, Int.mul_assoc]; omega
  have m1 := mul_ok hv1 hp.1 (by decide) (by omega) (by decide) k3
  have m2 := mul_ok hv2 hp.2 (by decide) (by omega) (by decide) k3
  have b1 := mulN_bd (V := 1) (by decide) hv1 hp.1
  have b2 := mulN_bd (V := 1) (by decide) hv2 hp.2
  have a := add_ok b1 b2 (by omega) (by omega) (by omega) (by omega) (by
    rw [Nat.max_self, Nat.zero_add]
    have : (3 * (1 * V) + 3 * (1 * V)) * 2 ^ κ = 6 * (V * 2 ^ κ) := by grind
    omega)
  obtain ⟨v1, v2⟩ := vec_ok h0 h1
  constructor
  · rw [g_spec_l02Dot, t_spec_l02Dot, v1]
    simp only [Option.bind_some, g_spec_l02Of, t_spec_l02Of, g_spec_l01Of, t_spec_l01Of]
    rw [m1.1, m2.1]
    simp only [Option.bind_some]
    rw [a.1]; rfl
  · rw [g_impl_Point_dot, t_impl_Point_dot, m1.2, m2.2]
    simp only [Option.bind_some]
    rw [a.2]; rfl

/-- The line of a direction through a point. -/
def lnN (p : Pt) (d : Int) : Ln := (d, dotN (vecN (d + 4)) p)

theorem through_ok {V : Int} {κ : Nat} {d : Int} {p : Pt} (h0 : -1000 ≤ d) (h1 : d ≤ 1000) (hV : 0 ≤ V) (hκ : κ ≤ 60) (hp : Bd V κ p.1 ∧ Bd V κ p.2) (h : 6 * V * 2 ^ κ ≤ 4611686018427387904) :
    g_spec_l02Through p d = some (lnN p (d % 8)) := by
  rw [g_spec_l02Through, t_spec_l02Through, mod_ok d h0 h1]
  simp only [Option.bind_some]
  rw [Int.tmod_eq_emod_of_nonneg (by omega), show d % 16 % 8 = d % 8 by omega, wrap_id (n := d % 8 + 4) (by omega) (by omega)]
  rw [(dot_ok (by omega) (by omega) hV hκ hp h).1]; rfl

theorem lineAt_ok {V : Int} {κ : Nat} {d : Int} {p : Pt} (h0 : 0 ≤ d) (h1 : d < 8) (hV : 0 ≤ V) (hκ : κ ≤ 60) (hp : Bd V κ p.1 ∧ Bd V κ p.2) (h : 6 * V * 2 ^ κ ≤ 4611686018427387904) :
    g_impl_lineAt p d = some (lnN p d) := by
  rw [g_impl_lineAt, t_impl_lineAt, g_impl_Line_normal, t_impl_Line_normal]
  simp only
  rw [wrap_id (n := d + 4) (by omega) (by omega), (vec_ok (d := d + 4) (by omega) (by omega)).2]
  simp only [Option.bind_some]
  rw [(dot_ok (by omega) (by omega) hV hκ hp h).2]; rfl

/-! arguments -/
theorem toNum_id (x : Nm) : g_laws_toNum x = some x := rfl
theorem toLine_id (l : Ln) : g_laws_toLine l = some l := by
  rw [g_laws_toLine, t_laws_toLine, toNum_id]; rfl


theorem low_self {x : Nm} (h : x.can) : low x.2.2.toNat x.1 x.2.1 = x := by
  have hk := h.1
  cases hn : x.2.2.toNat with
  | zero =>
    rw [low]
    have : x.2.2 = 0 := by omega
    exact Prod.ext rfl (Prod.ext rfl this.symm)
  | succ n =>
    rw [low, if_neg]
    · exact Prod.ext rfl (Prod.ext rfl (by show ((n + 1 : Nat) : Int) = x.2.2; omega))
    · rintro ⟨h1, h2⟩
      rcases h.2 with h | h | h
      · omega
      · exact h h1
      · exact h h2

theorem num_ok {x : Nm} (hc : x.can) (hk : x.2.2 ≤ 1000) (ha : I64 x.1) (hb : I64 x.2.1) : g_spec_l01Num x = some (cond (okN x) (x, true) ((0, (0, 0)), false)) := by
  rw [g_spec_l01Num, t_spec_l01Num]
  have := specLow (a := x.1) (b := x.2.1) hc.1 hk ha hb
  rw [low_self hc] at this
  have this : g_spec_l01Low x = some x := this
  rw [this]
  simp only [Option.bind_some, spec_okN]
  cases okN x <;> rfl

/-- A line, if it is valid. -/
def resL (l : Ln) : Ln × Int := cond (okN l.2) (l, 0) ((0, (0, (0, 0))), 2)

theorem spec_one {l : Ln} (hc : l.2.can) (hk : l.2.2.2 ≤ 1000) (ha : I64 l.2.1) (hb : I64 l.2.2.1) : g_spec_l23One l = some (resL l) := by
  rw [g_spec_l23One, t_spec_l23One, g_spec_l23Line, t_spec_l23Line, num_ok hc hk ha hb]
  unfold resL
  simp only [Option.bind_some]
  cases okN l.2 <;> rfl

theorem impl_res {l : Ln} (h0 : 0 ≤ l.1) (h1 : l.1 ≤ 7) : g_impl_lineResult l true = some (resL l) := by
  rw [g_impl_lineResult, t_impl_lineResult, impl_okL]
  unfold resL okL
  rw [dec_t h0, dec_t h1]
  simp only [Option.bind_some, Bool.not_true, cond_false, Bool.and_self, Bool.true_and]
  cases okN l.2 <;> rfl

theorem spec_okP (p : Pt) : g_spec_l02Point p = some (okP p) := by
  unfold g_spec_l02Point t_spec_l02Point okP
  simp only [Option.bind_some, spec_okN]
  cases okN p.1 <;> simp
theorem impl_okP (p : Pt) : g_impl_ValidPoint p = some (okP p) := by
  unfold g_impl_ValidPoint t_impl_ValidPoint okP
  simp only [Option.bind_some, impl_okN]
  cases okN p.1 <;> simp

theorem okP_bd {p : Pt} (h : okP p = true) : Bd 131072 10 p.1 ∧ Bd 131072 10 p.2 := by
  simp only [okP, Bool.and_eq_true] at h
  exact ⟨okN_bd h.1, okN_bd h.2⟩
theorem okL_dir {l : Ln} (h : okL l = true) : 0 ≤ l.1 ∧ l.1 ≤ 7 := by
  simp only [okL, Bool.and_eq_true, decide_eq_true_eq] at h
  exact h.1

theorem bd_i64 {V : Int} {κ : Nat} {x : Nm} (h : Bd V κ x) (hV : 0 ≤ V) (hb : V * 2 ^ κ ≤ 4611686018427387904) : I64 x.1 ∧ I64 x.2.1 := by
  have := h.pow_le hV
  exact ⟨⟨by omega, by omega⟩, ⟨by omega, by omega⟩⟩

theorem eqNum_self (x : Nm) : g_laws_eqNum x x = some true := by
  rw [g_laws_eqNum, t_laws_eqNum]
  simp
theorem eqLine_self (l : Ln) : g_laws_eqLine l l = some true := by
  rw [g_laws_eqLine, t_laws_eqLine, eqNum_self]
  simp

theorem toPoint_id (p : Pt) : g_laws_toPoint p = some p := by
  rw [g_laws_toPoint, t_laws_toPoint, toNum_id, toNum_id]; rfl

/-! the law -/
def foldPerp (l : Ln) (p : Pt) : Ln × Int := cond (okL l && okP p) (resL (lnN p ((l.1 + 4) % 8))) ((0, (0, (0, 0))), 1)

theorem spec_foldPerp (l : Ln) (p : Pt) : g_spec_FoldPerpendicular l p = some (foldPerp l p) := by
  rw [g_spec_FoldPerpendicular, t_spec_FoldPerpendicular, spec_okL, spec_okP]
  unfold foldPerp
  simp only [Option.bind_some]
  cases hl : okL l
  · rfl
  · cases hp : okP p
    · rfl
    · have hd := okL_dir hl
      have hb := okP_bd hp
      simp only [Bool.not_true, cond_false, Bool.and_self, cond_true, g_spec_l02Of, t_spec_l02Of, g_spec_l01Of, t_spec_l01Of, Option.bind_some]
      rw [wrap_id (n := l.1 + 4) (by omega) (by omega)]
      have ht := through_ok (V := 131072) (κ := 10) (d := l.1 + 4) (p := p) (by omega) (by omega) (by decide) (by decide) hb (by decide)
      have ht : g_spec_l02Through (p.1, p.2) (l.1 + 4) = _ := ht
      rw [ht]
      have hdb := dotN_bd (V := 1) (by decide) (vec_bd (d := (l.1 + 4) % 8 + 4) (by omega) (by omega)) hb
      have hi := bd_i64 hdb (by decide) (by decide)
      simp only [Option.bind_some]
      rw [spec_one (l := lnN p ((l.1 + 4) % 8)) (addN_can _ _) (by have := hdb.2.1; exact Int.le_trans this (by decide)) hi.1 hi.2]
      rfl

theorem impl_foldPerp (l : Ln) (p : Pt) : g_impl_FoldPerpendicular l p = some (foldPerp l p) := by
  rw [g_impl_FoldPerpendicular, t_impl_FoldPerpendicular, impl_okL, impl_okP]
  unfold foldPerp
  simp only [Option.bind_some]
  cases hl : okL l
  · rfl
  · cases hp : okP p
    · rfl
    · have hd := okL_dir hl
      have hb := okP_bd hp
      simp only [Bool.not_true, cond_false, Bool.and_self, cond_true]
      rw [wrap_id (n := l.1 + 4) (by omega) (by omega), Int.tmod_eq_emod_of_nonneg (by omega)]
      rw [lineAt_ok (V := 131072) (κ := 10) (d := (l.1 + 4) % 8) (p := p) (by omega) (by omega) (by decide) (by decide) hb (by decide)]
      simp only [Option.bind_some]
      rw [impl_res (l := lnN p ((l.1 + 4) % 8)) (by show 0 ≤ (l.1 + 4) % 8; omega) (by show (l.1 + 4) % 8 ≤ 7; omega)]
      rfl

theorem law_FoldPerpendicular (l : Ln) (p : Pt) : g_laws_FnExactFoldPerpendicular l p = some true := by
  rw [g_laws_FnExactFoldPerpendicular, t_laws_FnExactFoldPerpendicular]
  have hp : g_laws_toPoint p = some p := by
    rw [g_laws_toPoint, t_laws_toPoint, toNum_id, toNum_id]; rfl
  simp only [toLine_id, hp, Option.bind_some, spec_foldPerp, impl_foldPerp, eqLine_self]
  simp

end Go.Proofs.YtnpejkbnepncfaaDoor
