/- Numbers, lines, signs. No conditions. -/
import Derived.Test.YtooaomcmhgpbpaaDoorFQ2
import Derived.Test.YtooaomcmhgpbpaaDoorAL1
namespace Go.Proofs.YtooaomcmhgpbpaaDoor
open Go.Vai

def I64 (a : Int) : Prop := -9223372036854775808 ≤ a ∧ a ≤ 9223372036854775807

theorem wI {a : Int} (h : I64 a) : IntKind.wrap .i64 a = a := wrap_id h.1 h.2

theorem tmod2 (a : Int) : (Int.tmod a 2 == 0) = decide (a % 2 = 0) := by
  rw [show (Int.tmod a 2 == 0) = decide (Int.tmod a 2 = 0) by rfl]
  congr 1
  apply propext
  rw [Int.tmod_eq_emod]
  split <;> omega

theorem tmod2n (a : Int) : (Int.tmod a 2 != 0) = decide (a % 2 ≠ 0) := by
  rw [bne, tmod2]
  by_cases h : a % 2 = 0 <;> simp [h]

theorem tdiv2 {a : Int} (h : a % 2 = 0) : Int.tdiv a 2 = a / 2 := by
  rw [Int.tdiv_eq_ediv]
  split <;> omega

theorem and_nat (a : Int) (m : Nat) (hm : m < 18446744073709551616) : (BitVec.toNat ((BitVec.ofInt 64 a) &&& (BitVec.ofInt 64 (m : Int)))) = (a % 18446744073709551616).toNat &&& m := by
  rw [BitVec.toNat_and]
  congr 1
  rw [BitVec.toNat_ofInt]
  omega

theorem and1 (a : Int) : IntKind.wrap IntKind.i64 (((BitVec.toNat ((BitVec.ofInt 64 a) &&& (BitVec.ofInt 64 (1 : Int)))) : Nat) : Int) = a % 2 := by
  have := and_nat a 1 (by omega)
  rw [show ((1 : Nat) : Int) = 1 from rfl] at this
  rw [this, Nat.and_one_is_mod, wrap_id (by omega) (by omega)]
  omega

theorem and7 (a : Int) : IntKind.wrap IntKind.i64 (((BitVec.toNat ((BitVec.ofInt 64 a) &&& (BitVec.ofInt 64 (7 : Int)))) : Nat) : Int) = a % 8 := by
  have := and_nat a 7 (by omega)
  rw [show ((7 : Nat) : Int) = 7 from rfl] at this
  rw [this, show (7 : Nat) = 2 ^ 3 - 1 from rfl, Nat.and_two_pow_sub_one_eq_mod, wrap_id (by omega) (by omega)]
  omega

/-! lowest forms -/
theorem low_zero : ∀ k, low k 0 0 = (0, (0, 0))
  | 0 => rfl
  | k + 1 => by rw [low, if_pos ⟨rfl, rfl⟩]; exact low_zero k

theorem specLow_loop (p q r : Int) : ∀ (k : Nat) (a b : Int), k ≤ 1000 → I64 a → I64 b →
    w_spec_l01Low_4 (m_spec_l01Low_4 a b (k : Int) p q r) = some (.inl (d_spec_l01Low_4_0 (low k a b).1 (low k a b).2.1 (low k a b).2.2 p q r))
  | 0, a, b, hk, ha, hb => by
    rw [wq_spec_l01Low_4, u_spec_l01Low_4, dec_f (by omega), cond_false]; rfl
  | k + 1, a, b, hk, ha, hb => by
    have h1 := ha.1; have h2 := ha.2; have h3 := hb.1; have h4 := hb.2
    rw [wq_spec_l01Low_4, u_spec_l01Low_4, dec_t (by omega), cond_true, tmod2, tmod2, low]
    by_cases h : a % 2 = 0
    · rw [dec_t h, cond_true]
      by_cases h' : b % 2 = 0
      · rw [dec_t h', cond_true, if_pos ⟨h, h'⟩, tdiv2 h, tdiv2 h', wrap_id (n := a / 2) (by omega) (by omega), wrap_id (n := b / 2) (by omega) (by omega), wrap_id (by omega) (by omega),
          show ((k + 1 : Nat) : Int) - 1 = (k : Int) by omega]
        exact specLow_loop p q r k _ _ (by omega) ⟨by omega, by omega⟩ ⟨by omega, by omega⟩
      · rw [dec_f h', cond_false, if_neg (fun e => h' e.2)]; rfl
    · rw [dec_f h, cond_false, if_neg (fun e => h e.1)]; rfl

theorem specLow {a b k : Int} (hk : 0 ≤ k) (hk' : k ≤ 1000) (ha : I64 a) (hb : I64 b) : g_spec_l01Low (a, (b, k)) = some (low k.toNat a b) := by
  have hw := specLow_loop 0 0 0 k.toNat a b (by omega) ha hb
  rw [Int.toNat_of_nonneg hk] at hw
  rw [g_spec_l01Low, t_spec_l01Low]
  simp only
  rw [hw]
  rw [show (a == 0) = decide (a = 0) by rfl, show (b == 0) = decide (b = 0) by rfl]
  by_cases h : a = 0
  · by_cases h' : b = 0
    · subst h; subst h'; rw [low_zero]; rfl
    · rw [dec_t h, dec_f h']; rfl
  · rw [dec_f h]; rfl

theorem implLow_loop (p q r : Int) : ∀ (k : Nat) (a b : Int), k ≤ 1000 → I64 a → I64 b →
    w_impl_Num_reduced_2 (m_impl_Num_reduced_2 a b (k : Int) p q r) = some (.inl (d_impl_Num_reduced_2_0 (low k a b).1 (low k a b).2.1 (low k a b).2.2 p q r))
  | 0, a, b, hk, ha, hb => by
    rw [wq_impl_Num_reduced_2, u_impl_Num_reduced_2, dec_f (by omega), cond_false]; rfl
  | k + 1, a, b, hk, ha, hb => by
    have h1 := ha.1; have h2 := ha.2; have h3 := hb.1; have h4 := hb.2
    rw [wq_impl_Num_reduced_2, u_impl_Num_reduced_2, dec_t (by omega), cond_true, and1, and1, low]
    rw [show (a % 2 == 0) = decide (a % 2 = 0) by rfl, show (b % 2 == 0) = decide (b % 2 = 0) by rfl]
    by_cases h : a % 2 = 0
    · rw [dec_t h, cond_true]
      by_cases h' : b % 2 = 0
      · rw [dec_t h', cond_true, if_pos ⟨h, h'⟩, tdiv2 h, tdiv2 h', wrap_id (n := a / 2) (by omega) (by omega), wrap_id (n := b / 2) (by omega) (by omega), wrap_id (n := ((k + 1 : Nat) : Int) - 1) (by omega) (by omega),
          show ((k + 1 : Nat) : Int) - 1 = (k : Int) by omega]
        have IH := implLow_loop p q r k (a / 2) (b / 2) (by omega) ⟨by omega, by omega⟩ ⟨by omega, by omega⟩
        rw [show (a / 2 == 0) = decide (a / 2 = 0) by rfl, show (b / 2 == 0) = decide (b / 2 = 0) by rfl]
        by_cases e : a / 2 = 0
        · by_cases e' : b / 2 = 0
          · rw [dec_t e, dec_t e', cond_true, cond_true, e, e', low_zero]
            have I0 := implLow_loop p q r 0 0 0 (by omega) ⟨by omega, by omega⟩ ⟨by omega, by omega⟩
            exact I0
          · rw [dec_t e, dec_f e', cond_true, cond_false]; exact IH
        · rw [dec_f e, cond_false]; exact IH
      · rw [dec_f h', cond_false, if_neg (fun e => h' e.2)]; rfl
    · rw [dec_f h, cond_false, if_neg (fun e => h e.1)]; rfl

theorem implLow {a b k : Int} (hk : 0 ≤ k) (hk' : k ≤ 1000) (ha : I64 a) (hb : I64 b) : g_impl_Num_reduced (a, (b, k)) = some (low k.toNat a b) := by
  have hw := implLow_loop 0 0 0 k.toNat a b (by omega) ha hb
  rw [Int.toNat_of_nonneg hk] at hw
  rw [g_impl_Num_reduced, t_impl_Num_reduced]
  simp only
  rw [hw]
  rfl

/-! products -/
theorem mul_facts {V V' : Int} {κ κ' : Nat} {x y : Nm} (hx : Bd V κ x) (hy : Bd V' κ' y) (hV : 0 ≤ V) (h1 : V * 2 ^ κ ≤ 2305843009213693952) (h2 : 3 * (V * V') * 2 ^ (κ + κ') ≤ 4611686018427387904) :
    (I64 (x.1 * y.1) ∧ I64 (2 * x.2.1) ∧ I64 (2 * x.2.1 * y.2.1) ∧ I64 (x.1 * y.1 + 2 * x.2.1 * y.2.1)) ∧ (I64 (x.1 * y.2.1) ∧ I64 (x.2.1 * y.1) ∧ I64 (x.1 * y.2.1 + x.2.1 * y.1)) := by
  have bx := hx.pow_le hV
  obtain ⟨x1, x2, x3, x4⟩ := hx
  obtain ⟨y1, y2, y3, y4⟩ := hy
  have hp : (0 : Int) ≤ 2 ^ x.2.2.toNat := Int.le_of_lt (Int.pow_pos (by decide))
  have aa := prod_bd hV hp x3.1 x3.2 y3.1 y3.2
  have bb := prod_bd hV hp x4.1 x4.2 y4.1 y4.2
  have ab := prod_bd hV hp x3.1 x3.2 y4.1 y4.2
  have ba := prod_bd hV hp x4.1 x4.2 y3.1 y3.2
  have hVV : 0 ≤ V * V' * (2 ^ x.2.2.toNat * 2 ^ y.2.2.toNat) := by omega
  have hV' : 0 ≤ V * V' := by
    have hq : (0 : Int) < 2 ^ x.2.2.toNat * 2 ^ y.2.2.toNat := Int.mul_pos (Int.pow_pos (by decide)) (Int.pow_pos (by decide))
    by_cases h : 0 ≤ V * V'
    · exact h
    · exfalso
      have := Int.mul_neg_of_neg_of_pos (show V * V' < 0 by omega) hq
      omega
  have hle : V * V' * (2 ^ x.2.2.toNat * 2 ^ y.2.2.toNat) ≤ V * V' * 2 ^ (κ + κ') := by
    rw [← Int.pow_add]
    refine Int.mul_le_mul_of_nonneg_left ?_ hV'
    have := Nat.pow_le_pow_right (show 0 < 2 by decide) (show x.2.2.toNat + y.2.2.toNat ≤ κ + κ' by omega)
    exact_mod_cast this
  have h3 : 3 * (V * V' * 2 ^ (κ + κ')) ≤ 4611686018427387904 := by rw [← Int.mul_assoc]; exact h2
  have e2 : 2 * x.2.1 * y.2.1 = 2 * (x.2.1 * y.2.1) := Int.mul_assoc ..
  rw [e2]
  unfold I64
  refine ⟨⟨⟨?_, ?_⟩, ⟨?_, ?_⟩, ⟨?_, ?_⟩, ⟨?_, ?_⟩⟩, ⟨⟨?_, ?_⟩, ⟨?_, ?_⟩, ⟨?_, ?_⟩⟩⟩ <;> omega

theorem mul_ok {V V' : Int} {κ κ' : Nat} {x y : Nm} (hx : Bd V κ x) (hy : Bd V' κ' y) (hV : 0 ≤ V) (hκ : κ + κ' ≤ 1000) (h1 : V * 2 ^ κ ≤ 2305843009213693952) (h2 : 3 * (V * V') * 2 ^ (κ + κ') ≤ 4611686018427387904) :
    g_spec_l01Mul x y = some (mulN x y) ∧ g_impl_Num_times x y = some (mulN x y) := by
  obtain ⟨⟨f1, f2, f3, f4⟩, f5, f6, f7⟩ := mul_facts hx hy hV h1 h2
  have hk1 := hx.1
  have hk2 := hx.2.1
  have hk3 := hy.1
  have hk4 := hy.2.1
  have hk : (x.2.2 + y.2.2).toNat = x.2.2.toNat + y.2.2.toNat := by omega
  constructor
  · rw [g_spec_l01Mul, t_spec_l01Mul]
    rw [wI f1, wI f2, wI f3, wI f4, wI f5, wI f6, wI f7, wrap_id (n := x.2.2 + y.2.2) (by omega) (by omega), specLow (by omega) (by omega) f4 f7, hk]
    rfl
  · rw [g_impl_Num_times, t_impl_Num_times]
    rw [wI f1, wI f2, wI f3, wI f4, wI f5, wI f6, wI f7, wrap_id (n := x.2.2 + y.2.2) (by omega) (by omega), implLow (by omega) (by omega) f4 f7, hk]
    rfl

/-! sums -/
theorem shl_bd {a : Int} {n : Nat} (h1 : -4611686018427387904 ≤ a * 2 ^ (n + 1)) (h2 : a * 2 ^ (n + 1) ≤ 4611686018427387904) : I64 (a * 2) ∧ (-4611686018427387904 ≤ a * 2 * 2 ^ n ∧ a * 2 * 2 ^ n ≤ 4611686018427387904) := by
  have e : a * 2 ^ (n + 1) = a * 2 * 2 ^ n := by rw [Int.pow_succ]; grind
  rw [e] at h1 h2
  have hp : (1 : Int) ≤ 2 ^ n := Int.pow_pos (by decide)
  refine ⟨⟨?_, ?_⟩, h1, h2⟩
  · by_cases h : 0 ≤ a * 2
    · omega
    · have := Int.mul_le_mul_of_nonneg_left hp (show 0 ≤ -(a * 2) by omega)
      rw [Int.neg_mul, Int.neg_mul] at this
      omega
  · by_cases h : 0 ≤ a * 2
    · have := Int.mul_le_mul_of_nonneg_left hp h
      omega
    · omega

theorem specAdd_loop1 (a' b' k' p q r : Int) (hk' : k' ≤ 1000) : ∀ (n : Nat) (a b k : Int), 0 ≤ k → n = (k' - k).toNat → (-4611686018427387904 ≤ a * 2 ^ n ∧ a * 2 ^ n ≤ 4611686018427387904) → (-4611686018427387904 ≤ b * 2 ^ n ∧ b * 2 ^ n ≤ 4611686018427387904) →
    w_spec_l01Add_2 (m_spec_l01Add_2 a b k a' b' k' p q r) = some (.inl (d_spec_l01Add_2_0 (a * 2 ^ n) (b * 2 ^ n) (k + n) a' b' k' p q r))
  | 0, a, b, k, hk, hn, ha, hb => by
    rw [wq_spec_l01Add_2, u_spec_l01Add_2, dec_f (by omega), cond_false]
    simp; rfl
  | n + 1, a, b, k, hk, hn, ha, hb => by
    obtain ⟨ia, ha'⟩ := shl_bd ha.1 ha.2
    obtain ⟨ib, hb'⟩ := shl_bd hb.1 hb.2
    rw [wq_spec_l01Add_2, u_spec_l01Add_2, dec_t (by omega), cond_true, wI ia, wI ib, wrap_id (n := k + 1) (by omega) (by omega)]
    refine (specAdd_loop1 a' b' k' p q r hk' n (a * 2) (b * 2) (k + 1) (by omega) (by omega) ha' hb').trans ?_
    rw [show a * 2 * 2 ^ n = a * 2 ^ (n + 1) by rw [Int.pow_succ]; grind, show b * 2 * 2 ^ n = b * 2 ^ (n + 1) by rw [Int.pow_succ]; grind, show k + 1 + (n : Int) = k + ((n + 1 : Nat) : Int) by omega]

theorem specAdd_loop2 (a' b' k' p q r : Int) (hk' : k' ≤ 1000) : ∀ (n : Nat) (a b k : Int), 0 ≤ k → n = (k' - k).toNat → (-4611686018427387904 ≤ a * 2 ^ n ∧ a * 2 ^ n ≤ 4611686018427387904) → (-4611686018427387904 ≤ b * 2 ^ n ∧ b * 2 ^ n ≤ 4611686018427387904) →
    w_spec_l01Add_6 (m_spec_l01Add_6 a' b' k' a b k p q r) = some (.inl (d_spec_l01Add_6_0 a' b' k' (a * 2 ^ n) (b * 2 ^ n) (k + n) p q r))
  | 0, a, b, k, hk, hn, ha, hb => by
    rw [wq_spec_l01Add_6, u_spec_l01Add_6, dec_f (by omega), cond_false]
    simp; rfl
  | n + 1, a, b, k, hk, hn, ha, hb => by
    obtain ⟨ia, ha'⟩ := shl_bd ha.1 ha.2
    obtain ⟨ib, hb'⟩ := shl_bd hb.1 hb.2
    rw [wq_spec_l01Add_6, u_spec_l01Add_6, dec_t (by omega), cond_true, wI ia, wI ib, wrap_id (n := k + 1) (by omega) (by omega)]
    refine (specAdd_loop2 a' b' k' p q r hk' n (a * 2) (b * 2) (k + 1) (by omega) (by omega) ha' hb').trans ?_
    rw [show a * 2 * 2 ^ n = a * 2 ^ (n + 1) by rw [Int.pow_succ]; grind, show b * 2 * 2 ^ n = b * 2 ^ (n + 1) by rw [Int.pow_succ]; grind, show k + 1 + (n : Int) = k + ((n + 1 : Nat) : Int) by omega]

theorem add_ok {V V' : Int} {κ κ' : Nat} {x y : Nm} (hx : Bd V κ x) (hy : Bd V' κ' y) (hV : 0 ≤ V) (hV' : 0 ≤ V') (hκ : κ ≤ 60) (hκ' : κ' ≤ 60) (h : (V + V') * 2 ^ (max κ κ') ≤ 4611686018427387904) :
    g_spec_l01Add x y = some (addN x y) ∧ g_impl_Num_plus x y = some (addN x y) := by
  obtain ⟨x1, x2, x3, x4⟩ := hx
  obtain ⟨y1, y2, y3, y4⟩ := hy
  have hK : max x.2.2.toNat y.2.2.toNat ≤ max κ κ' := by omega
  have a1 := scale (Nat.le_max_left x.2.2.toNat y.2.2.toNat) x3.1 x3.2
  have a2 := scale (Nat.le_max_left x.2.2.toNat y.2.2.toNat) x4.1 x4.2
  have a3 := scale (Nat.le_max_right x.2.2.toNat y.2.2.toNat) y3.1 y3.2
  have a4 := scale (Nat.le_max_right x.2.2.toNat y.2.2.toNat) y4.1 y4.2
  have hp : (2 : Int) ^ (max x.2.2.toNat y.2.2.toNat) ≤ 2 ^ (max κ κ') := by
    have := Nat.pow_le_pow_right (show 0 < 2 by decide) hK
    exact_mod_cast this
  have e1 := Int.mul_le_mul_of_nonneg_left hp hV
  have e2 := Int.mul_le_mul_of_nonneg_left hp hV'
  have e3 : (V + V') * 2 ^ (max κ κ') = V * 2 ^ (max κ κ') + V' * 2 ^ (max κ κ') := Int.add_mul ..
  have p1 : 0 ≤ V * 2 ^ (max x.2.2.toNat y.2.2.toNat) := Int.mul_nonneg hV (Int.le_of_lt (Int.pow_pos (by decide)))
  have p2 : 0 ≤ V' * 2 ^ (max x.2.2.toNat y.2.2.toNat) := Int.mul_nonneg hV' (Int.le_of_lt (Int.pow_pos (by decide)))
  have hm : ((max x.2.2.toNat y.2.2.toNat : Nat) : Int) = max x.2.2 y.2.2 := by omega
  have hkx : max x.2.2.toNat y.2.2.toNat - x.2.2.toNat = (y.2.2 - x.2.2).toNat := by omega
  have hky : max x.2.2.toNat y.2.2.toNat - y.2.2.toNat = (x.2.2 - y.2.2).toNat := by omega
  have i1 : I64 (x.1 * 2 ^ (max x.2.2.toNat y.2.2.toNat - x.2.2.toNat) + y.1 * 2 ^ (max x.2.2.toNat y.2.2.toNat - y.2.2.toNat)) := ⟨by omega, by omega⟩
  have i2 : I64 (x.2.1 * 2 ^ (max x.2.2.toNat y.2.2.toNat - x.2.2.toNat) + y.2.1 * 2 ^ (max x.2.2.toNat y.2.2.toNat - y.2.2.toNat)) := ⟨by omega, by omega⟩
  constructor
  · rw [g_spec_l01Add, t_spec_l01Add]
    rw [specAdd_loop1 y.1 y.2.1 y.2.2 0 0 0 (by omega) (y.2.2 - x.2.2).toNat x.1 x.2.1 x.2.2 x1 rfl (by rw [← hkx]; omega) (by rw [← hkx]; omega)]
    simp only [Option.bind_some, exC, x_spec_l01Add_2, x_spec_l01Add_6]
    rw [specAdd_loop2 _ _ _ 0 0 0 (by omega) (x.2.2 - y.2.2).toNat y.1 y.2.1 y.2.2 y1 (by omega) (by rw [← hky]; omega) (by rw [← hky]; omega)]
    simp only [Option.bind_some, x_spec_l01Add_6]
    rw [← hkx, ← hky, wI i1, wI i2, specLow (by omega) (by omega) i1 i2]
    rw [show (x.2.2 + ((max x.2.2.toNat y.2.2.toNat - x.2.2.toNat : Nat) : Int)).toNat = max x.2.2.toNat y.2.2.toNat by omega]
    rfl
  · rw [g_impl_Num_plus, t_impl_Num_plus]
    have hM : (if y.2.2 > x.2.2 then y.2.2 else x.2.2) = ((max x.2.2.toNat y.2.2.toNat : Nat) : Int) := by split <;> omega
    simp only [if_true, hM]
    have w1 : IntKind.wrap IntKind.i64 (((max x.2.2.toNat y.2.2.toNat : Nat) : Int) - x.2.2) = ((max x.2.2.toNat y.2.2.toNat - x.2.2.toNat : Nat) : Int) := by rw [wrap_id (by omega) (by omega)]; omega
    have w2 : IntKind.wrap IntKind.i64 (((max x.2.2.toNat y.2.2.toNat : Nat) : Int) - y.2.2) = ((max x.2.2.toNat y.2.2.toNat - y.2.2.toNat : Nat) : Int) := by rw [wrap_id (by omega) (by omega)]; omega
    rw [w1, w2, dec_f (by omega), dec_f (by omega), Int.toNat_natCast, Int.toNat_natCast]
    simp only [cond_false]
    rw [show min (max x.2.2.toNat y.2.2.toNat - x.2.2.toNat) 64 = max x.2.2.toNat y.2.2.toNat - x.2.2.toNat by omega, show min (max x.2.2.toNat y.2.2.toNat - y.2.2.toNat) 64 = max x.2.2.toNat y.2.2.toNat - y.2.2.toNat by omega]
    rw [wrap_id (n := x.1 * _) (by omega) (by omega), wrap_id (n := y.1 * _) (by omega) (by omega), wrap_id (n := x.2.1 * _) (by omega) (by omega), wrap_id (n := y.2.1 * _) (by omega) (by omega), wI i1, wI i2, implLow (by omega) (by omega) i1 i2, Int.toNat_natCast]
    rfl

theorem neg_ok {V : Int} {κ : Nat} {x : Nm} (hx : Bd V κ x) (hV : 0 ≤ V) (h : V * 2 ^ κ ≤ 4611686018427387904) : g_spec_l01Neg x = some (negN x) ∧ g_impl_Num_neg x = some (negN x) := by
  have := hx.pow_le hV
  constructor
  · rw [g_spec_l01Neg, t_spec_l01Neg, wrap_id (n := 0 - x.1) (by omega) (by omega), wrap_id (n := 0 - x.2.1) (by omega) (by omega), Int.zero_sub, Int.zero_sub]; rfl
  · rw [g_impl_Num_neg, t_impl_Num_neg, wrap_id (n := 0 - x.1) (by omega) (by omega), wrap_id (n := 0 - x.2.1) (by omega) (by omega), Int.zero_sub, Int.zero_sub]; rfl

theorem sub_ok {V V' : Int} {κ κ' : Nat} {x y : Nm} (hx : Bd V κ x) (hy : Bd V' κ' y) (hV : 0 ≤ V) (hV' : 0 ≤ V') (hκ : κ ≤ 60) (hκ' : κ' ≤ 60) (h : (V + V') * 2 ^ (max κ κ') ≤ 4611686018427387904) :
    g_spec_l01Sub x y = some (subN x y) ∧ g_impl_Num_minus x y = some (subN x y) := by
  have h' : V' * 2 ^ κ' ≤ 4611686018427387904 := by
    have hp : (2 : Int) ^ κ' ≤ 2 ^ (max κ κ') := by
      have := Nat.pow_le_pow_right (show 0 < 2 by decide) (Nat.le_max_right κ κ')
      exact_mod_cast this
    have e2 := Int.mul_le_mul_of_nonneg_left hp hV'
    have e3 : (V + V') * 2 ^ (max κ κ') = V * 2 ^ (max κ κ') + V' * 2 ^ (max κ κ') := Int.add_mul ..
    have p1 : 0 ≤ V * 2 ^ (max κ κ') := Int.mul_nonneg hV (Int.le_of_lt (Int.pow_pos (by decide)))
    omega
  have hn := neg_ok hy hV' h'
  have ha := add_ok hx (negN_bd hy) hV hV' hκ hκ' h
  constructor
  · rw [g_spec_l01Sub, t_spec_l01Sub, hn.1, Option.bind_some, ha.1]; rfl
  · rw [g_impl_Num_minus, t_impl_Num_minus, hn.2, Option.bind_some, ha.2]; rfl


/-! what is valid -/
def okN (x : Nm) : Bool := (decide (-131072 ≤ x.1) && decide (x.1 ≤ 131072)) && ((decide (-131072 ≤ x.2.1) && decide (x.2.1 ≤ 131072)) && ((decide (0 ≤ x.2.2) && decide (x.2.2 ≤ 10)) && (decide (x.2.2 = 0) || (decide (x.1 % 2 ≠ 0) || decide (x.2.1 % 2 ≠ 0)))))

theorem in_spec (x a b : Int) : g_spec_l00In x a b = some (decide (a ≤ x) && decide (x ≤ b)) := by
  unfold g_spec_l00In t_spec_l00In
  rw [show decide (x ≥ a) = decide (a ≤ x) from rfl]
  cases decide (a ≤ x) <;> simp
theorem in_impl (x a b : Int) : g_impl_within x a b = some (decide (a ≤ x) && decide (x ≤ b)) := by
  unfold g_impl_within t_impl_within
  rw [show decide (x ≥ a) = decide (a ≤ x) from rfl]
  cases decide (a ≤ x) <;> simp

theorem spec_okN (x : Nm) : g_spec_l01Ok x = some (okN x) := by
  unfold g_spec_l01Ok t_spec_l01Ok okN
  simp only [in_spec, Option.bind_some, tmod2n]
  rw [show (x.2.2 == 0) = decide (x.2.2 = 0) from rfl]
  cases (decide (-131072 ≤ x.1) && decide (x.1 ≤ 131072)) <;> cases (decide (-131072 ≤ x.2.1) && decide (x.2.1 ≤ 131072)) <;> cases (decide (0 ≤ x.2.2) && decide (x.2.2 ≤ 10)) <;> cases decide (x.2.2 = 0) <;> cases decide (x.1 % 2 ≠ 0) <;> simp

theorem odd_one (a : Int) : (a % 2 == 1) = decide (a % 2 ≠ 0) := by
  rw [show (a % 2 == 1) = decide (a % 2 = 1) from rfl]
  congr 1
  apply propext
  omega

theorem impl_okN (x : Nm) : g_impl_ValidNum x = some (okN x) := by
  unfold g_impl_ValidNum t_impl_ValidNum okN
  simp only [in_impl, Option.bind_some, and1, odd_one]
  rw [show (x.2.2 == 0) = decide (x.2.2 = 0) from rfl]
  cases (decide (-131072 ≤ x.1) && decide (x.1 ≤ 131072)) <;> cases (decide (-131072 ≤ x.2.1) && decide (x.2.1 ≤ 131072)) <;> cases (decide (0 ≤ x.2.2) && decide (x.2.2 ≤ 10)) <;> cases decide (x.2.2 = 0) <;> cases decide (x.1 % 2 ≠ 0) <;> simp

abbrev Pt := Nm × Nm
abbrev Ln := Int × Nm

def okL (l : Ln) : Bool := (decide (0 ≤ l.1) && decide (l.1 ≤ 7)) && okN l.2
def okP (p : Pt) : Bool := okN p.1 && okN p.2

theorem spec_okL (l : Ln) : g_spec_l02Line l = some (okL l) := by
  unfold g_spec_l02Line t_spec_l02Line okL
  simp only [in_spec, Option.bind_some, spec_okN]
  cases (decide (0 ≤ l.1) && decide (l.1 ≤ 7)) <;> simp
theorem impl_okL (l : Ln) : g_impl_ValidLine l = some (okL l) := by
  unfold g_impl_ValidLine t_impl_ValidLine okL
  simp only [in_impl, Option.bind_some, impl_okN]
  cases (decide (0 ≤ l.1) && decide (l.1 ≤ 7)) <;> simp

theorem okN_bd {x : Nm} (h : okN x = true) : Bd 131072 10 x := by
  simp only [okN, Bool.and_eq_true, decide_eq_true_eq] at h
  obtain ⟨⟨h1, h2⟩, ⟨h3, h4⟩, ⟨h5, h6⟩, _⟩ := h
  have : (1 : Int) ≤ 2 ^ x.2.2.toNat := Int.pow_pos (by decide)
  exact ⟨h5, by omega, by omega, by omega⟩
theorem okN_can {x : Nm} (h : okN x = true) : x.can := by
  simp only [okN, Bool.and_eq_true, Bool.or_eq_true, decide_eq_true_eq] at h
  obtain ⟨_, _, ⟨h5, h6⟩, h7⟩ := h
  exact ⟨h5, h7⟩

/-! directions -/
def vecs : List Pt := [((1, (0, 0)), (0, (0, 0))), ((1, (0, 0)), (-1, (1, 0))), ((1, (0, 0)), (1, (0, 0))), ((-1, (1, 0)), (1, (0, 0))), ((0, (0, 0)), (1, (0, 0))), ((1, (-1, 0)), (1, (0, 0))), ((-1, (0, 0)), (1, (0, 0))), ((-1, (0, 0)), (-1, (1, 0))),
  ((-1, (0, 0)), (0, (0, 0))), ((-1, (0, 0)), (1, (-1, 0))), ((-1, (0, 0)), (-1, (0, 0))), ((1, (-1, 0)), (-1, (0, 0))), ((0, (0, 0)), (-1, (0, 0))), ((-1, (1, 0)), (-1, (0, 0))), ((1, (0, 0)), (-1, (0, 0))), ((1, (0, 0)), (1, (-1, 0)))]
def vecN (d : Int) : Pt := vecs.getD d.toNat ((0, (0, 0)), (0, (0, 0)))

theorem sixteen {d : Int} (h0 : 0 ≤ d) (h1 : d < 16) : d = 0 ∨ d = 1 ∨ d = 2 ∨ d = 3 ∨ d = 4 ∨ d = 5 ∨ d = 6 ∨ d = 7 ∨ d = 8 ∨ d = 9 ∨ d = 10 ∨ d = 11 ∨ d = 12 ∨ d = 13 ∨ d = 14 ∨ d = 15 := by omega

theorem vec_ok {d : Int} (h0 : 0 ≤ d) (h1 : d < 16) : g_spec_l02Vec d = some (vecN d) ∧ g_impl_vector d = some (vecN d) := by
  rcases sixteen h0 h1 with rfl | rfl | rfl | rfl | rfl | rfl | rfl | rfl | rfl | rfl | rfl | rfl | rfl | rfl | rfl | rfl <;> exact ⟨by kernel_rfl, by kernel_rfl⟩

theorem vec_bd {d : Int} (h0 : 0 ≤ d) (h1 : d < 16) : Bd 1 0 (vecN d).1 ∧ Bd 1 0 (vecN d).2 := by
  rcases sixteen h0 h1 with rfl | rfl | rfl | rfl | rfl | rfl | rfl | rfl | rfl | rfl | rfl | rfl | rfl | rfl | rfl | rfl <;> (unfold Bd; decide)

theorem mod_ok (d : Int) (_h0 : -1000 ≤ d) (_h1 : d ≤ 1000) : g_spec_l02Mod d = some (d % 16) := by
  unfold g_spec_l02Mod t_spec_l02Mod
  have h2 : -16 < Int.tmod d 16 := by rw [Int.tmod_eq_emod]; split <;> omega
  have h3 : Int.tmod d 16 < 16 := Int.tmod_lt_of_pos d (by decide)
  rw [wrap_id (by omega) (by omega), Int.tmod_eq_emod_of_nonneg (by omega)]
  have : Int.tmod d 16 % 16 = d % 16 := by
    rw [Int.tmod_eq_emod]
    split <;> omega
  congr 1
  omega

/-! products of points -/
def dotN (v p : Pt) : Nm := addN (mulN v.1 p.1) (mulN v.2 p.2)

theorem dotN_bd {V V' : Int} {κ κ' : Nat} {v p : Pt} (hV : 0 ≤ V) (hv : Bd V κ v.1 ∧ Bd V κ v.2) (hp : Bd V' κ' p.1 ∧ Bd V' κ' p.2) : Bd (3 * (V * V') + 3 * (V * V')) (κ + κ') (dotN v p) := by
  have := addN_bd (mulN_bd hV hv.1 hp.1) (mulN_bd hV hv.2 hp.2)
  rw [Nat.max_self] at this
  exact this

theorem dot_ok {V : Int} {κ : Nat} {d : Int} {p : Pt} (h0 : 0 ≤ d) (h1 : d < 16) (hV : 0 ≤ V) (hκ : κ ≤ 60) (hp : Bd V κ p.1 ∧ Bd V κ p.2) (h : 6 * V * 2 ^ κ ≤ 4611686018427387904) :
    g_spec_l02Dot d p = some (dotN (vecN d) p) ∧ g_impl_Point_dot (vecN d) p = some (dotN (vecN d) p) := by
  obtain ⟨hv1, hv2⟩ := vec_bd h0 h1
  have hpw : 0 ≤ V * 2 ^ κ := Int.mul_nonneg hV (Int.le_of_lt (Int.pow_pos (by decide)))
  have e : 6 * V * 2 ^ κ = 6 * (V * 2 ^ κ) := Int.mul_assoc ..
  have k3 : 3 * (1 * V) * 2 ^ (0 + κ) ≤ 4611686018427387904 := by
    rw [Nat.zero_add, Int.one_mul, Int.mul_assoc]; omega
  have m1 := mul_ok hv1 hp.1 (by decide) (by omega) (by decide) k3
  have m2 := mul_ok hv2 hp.2 (by decide) (by omega) (by decide) k3
  have b1 := mulN_bd (V := 1) (by decide) hv1 hp.1
  have b2 := mulN_bd (V := 1) (by decide) hv2 hp.2
  have a := add_ok b1 b2 (by omega) (by omega) (by omega) (by omega) (by
    rw [Nat.max_self, Nat.zero_add]
    have : (3 * (1 * V) + 3 * (1 * V)) * 2 ^ κ = 6 * (V * 2 ^ κ) := by grind
    omega)
  obtain ⟨v1, v2⟩ := vec_ok h0 h1
  constructor
  · rw [g_spec_l02Dot, t_spec_l02Dot, v1]
    simp only [Option.bind_some, g_spec_l02Of, t_spec_l02Of, g_spec_l01Of, t_spec_l01Of]
    rw [m1.1, m2.1]
    simp only [Option.bind_some]
    rw [a.1]; rfl
  · rw [g_impl_Point_dot, t_impl_Point_dot, m1.2, m2.2]
    simp only [Option.bind_some]
    rw [a.2]; rfl

/-- The line of a direction through a point. -/
def lnN (p : Pt) (d : Int) : Ln := (d, dotN (vecN (d + 4)) p)

theorem through_ok {V : Int} {κ : Nat} {d : Int} {p : Pt} (h0 : -1000 ≤ d) (h1 : d ≤ 1000) (hV : 0 ≤ V) (hκ : κ ≤ 60) (hp : Bd V κ p.1 ∧ Bd V κ p.2) (h : 6 * V * 2 ^ κ ≤ 4611686018427387904) :
    g_spec_l02Through p d = some (lnN p (d % 8)) := by
  rw [g_spec_l02Through, t_spec_l02Through, mod_ok d h0 h1]
  simp only [Option.bind_some]
  rw [Int.tmod_eq_emod_of_nonneg (by omega), show d % 16 % 8 = d % 8 by omega, wrap_id (n := d % 8 + 4) (by omega) (by omega)]
  rw [(dot_ok (by omega) (by omega) hV hκ hp h).1]; rfl

theorem lineAt_ok {V : Int} {κ : Nat} {d : Int} {p : Pt} (h0 : 0 ≤ d) (h1 : d < 8) (hV : 0 ≤ V) (hκ : κ ≤ 60) (hp : Bd V κ p.1 ∧ Bd V κ p.2) (h : 6 * V * 2 ^ κ ≤ 4611686018427387904) :
    g_impl_lineAt p d = some (lnN p d) := by
  rw [g_impl_lineAt, t_impl_lineAt, g_impl_Line_normal, t_impl_Line_normal]
  simp only
  rw [wrap_id (n := d + 4) (by omega) (by omega), (vec_ok (d := d + 4) (by omega) (by omega)).2]
  simp only [Option.bind_some]
  rw [(dot_ok (by omega) (by omega) hV hκ hp h).2]; rfl

/-! arguments -/
theorem toNum_id (x : Nm) : g_laws_toNum x = some x := rfl
theorem toLine_id (l : Ln) : g_laws_toLine l = some l := by
  rw [g_laws_toLine, t_laws_toLine, toNum_id]; rfl


theorem low_self {x : Nm} (h : x.can) : low x.2.2.toNat x.1 x.2.1 = x := by
  have hk := h.1
  cases hn : x.2.2.toNat with
  | zero =>
    rw [low]
    have : x.2.2 = 0 := by omega
    exact Prod.ext rfl (Prod.ext rfl this.symm)
  | succ n =>
    rw [low, if_neg]
    · exact Prod.ext rfl (Prod.ext rfl (by show ((n + 1 : Nat) : Int) = x.2.2; omega))
    · rintro ⟨h1, h2⟩
      rcases h.2 with h | h | h
      · omega
      · exact h h1
      · exact h h2

theorem num_ok {x : Nm} (hc : x.can) (hk : x.2.2 ≤ 1000) (ha : I64 x.1) (hb : I64 x.2.1) : g_spec_l01Num x = some (cond (okN x) (x, true) ((0, (0, 0)), false)) := by
  rw [g_spec_l01Num, t_spec_l01Num]
  have := specLow (a := x.1) (b := x.2.1) hc.1 hk ha hb
  rw [low_self hc] at this
  have this : g_spec_l01Low x = some x := this
  rw [this]
  simp only [Option.bind_some, spec_okN]
  cases okN x <;> rfl

/-- A line, if it is valid. -/
def resL (l : Ln) : Ln × Int := cond (okN l.2) (l, 0) ((0, (0, (0, 0))), 2)

theorem spec_okP (p : Pt) : g_spec_l02Point p = some (okP p) := by
  unfold g_spec_l02Point t_spec_l02Point okP
  simp only [Option.bind_some, spec_okN]
  cases okN p.1 <;> simp
theorem impl_okP (p : Pt) : g_impl_ValidPoint p = some (okP p) := by
  unfold g_impl_ValidPoint t_impl_ValidPoint okP
  simp only [Option.bind_some, impl_okN]
  cases okN p.1 <;> simp

theorem okP_bd {p : Pt} (h : okP p = true) : Bd 131072 10 p.1 ∧ Bd 131072 10 p.2 := by
  simp only [okP, Bool.and_eq_true] at h
  exact ⟨okN_bd h.1, okN_bd h.2⟩
theorem okL_dir {l : Ln} (h : okL l = true) : 0 ≤ l.1 ∧ l.1 ≤ 7 := by
  simp only [okL, Bool.and_eq_true, decide_eq_true_eq] at h
  exact h.1

theorem bd_i64 {V : Int} {κ : Nat} {x : Nm} (h : Bd V κ x) (hV : 0 ≤ V) (hb : V * 2 ^ κ ≤ 4611686018427387904) : I64 x.1 ∧ I64 x.2.1 := by
  have := h.pow_le hV
  exact ⟨⟨by omega, by omega⟩, ⟨by omega, by omega⟩⟩

theorem eqNum_self (x : Nm) : g_laws_eqNum x x = some true := by
  rw [g_laws_eqNum, t_laws_eqNum]
  simp
theorem eqLine_self (l : Ln) : g_laws_eqLine l l = some true := by
  rw [g_laws_eqLine, t_laws_eqLine, eqNum_self]
  simp

theorem toPoint_id (p : Pt) : g_laws_toPoint p = some p := by
  rw [g_laws_toPoint, t_laws_toPoint, toNum_id, toNum_id]; rfl

/-! quotients -/
theorem tmodz (a m : Int) : (Int.tmod a m != 0) = decide (a % m ≠ 0) := by
  have : (Int.tmod a m = 0) ↔ (a % m = 0) := by rw [← Int.dvd_iff_tmod_eq_zero, ← Int.dvd_iff_emod_eq_zero]
  rw [bne, show (Int.tmod a m == 0) = decide (Int.tmod a m = 0) from rfl]
  by_cases h : a % m = 0
  · rw [dec_t (this.2 h), dec_f (fun e => e h)]; rfl
  · rw [dec_f (fun e => h (this.1 e)), dec_t h]; rfl

theorem quot_bd {a m : Int} (hm : m ≠ 0) (h : a % m = 0) (h1 : -4611686018427387904 ≤ a) (h2 : a ≤ 4611686018427387904) : IntKind.wrap .i64 (Int.tdiv a m) = a / m ∧ I64 (a / m) := by
  have hd : m ∣ a := Int.dvd_iff_emod_eq_zero.2 h
  rw [Int.tdiv_eq_ediv_of_dvd hd]
  have e : a = m * (a / m) := by have := Int.mul_ediv_add_emod a m; omega
  have hn : (a / m).natAbs ≤ a.natAbs := by
    have e2 : a.natAbs = m.natAbs * (a / m).natAbs := by rw [← Int.natAbs_mul, ← e]
    rw [e2]
    exact Nat.le_mul_of_pos_left _ (by omega)
  have hi : I64 (a / m) := ⟨by omega, by omega⟩
  exact ⟨wI hi, hi⟩

theorem specDiv_loop6 (c1 c2 c3 c4 c5 c6 A B : Int) : ∀ (n : Nat) (x k : Int), n ≤ 64 → x ≠ 0 → -(2 ^ n) < x → x < 2 ^ n → I64 x → 0 ≤ k → k + n ≤ 1000 →
    w_spec_l01Div_6 (m_spec_l01Div_6 x c1 c2 c3 c4 c5 c6 A B k) = some (.inl (d_spec_l01Div_6_0 (oddP n x).1 c1 c2 c3 c4 c5 c6 A B (k + (oddP n x).2)))
  | 0, x, k, hn, h0, h1, h2, hi, hk, hk' => by simp at h1 h2; omega
  | n + 1, x, k, hn, h0, h1, h2, hi, hk, hk' => by
    have i1 := hi.1
    have i2 := hi.2
    rw [wq_spec_l01Div_6, u_spec_l01Div_6, tmod2, oddP]
    rw [Int.pow_succ] at h1 h2
    by_cases h : x % 2 = 0
    · rw [dec_t h, cond_true, if_pos h, tdiv2 h, wrap_id (n := x / 2) (by omega) (by omega), wrap_id (n := k + 1) (by omega) (by omega)]
      refine (specDiv_loop6 c1 c2 c3 c4 c5 c6 A B n (x / 2) (k + 1) (by omega) (by omega) (by omega) (by omega) ⟨by omega, by omega⟩ (by omega) (by omega)).trans ?_
      simp only
      rw [show k + 1 + ((oddP n (x / 2)).2 : Int) = k + (((oddP n (x / 2)).2 + 1 : Nat) : Int) by omega]
    · rw [dec_f h, cond_false, if_neg h]
      simp; rfl

theorem implDiv_loop7 (c1 c2 c3 A B : Int) : ∀ (n : Nat) (x k : Int), n ≤ 64 → x ≠ 0 → -(2 ^ n) < x → x < 2 ^ n → I64 x → 0 ≤ k → k + n ≤ 1000 →
    w_impl_Num_over_7 (m_impl_Num_over_7 x c1 c2 c3 A B k) = some (.inl (d_impl_Num_over_7_0 (oddP n x).1 c1 c2 c3 A B (k + (oddP n x).2)))
  | 0, x, k, hn, h0, h1, h2, hi, hk, hk' => by simp at h1 h2; omega
  | n + 1, x, k, hn, h0, h1, h2, hi, hk, hk' => by
    have i1 := hi.1
    have i2 := hi.2
    rw [wq_impl_Num_over_7, u_impl_Num_over_7, and1, oddP, show (x % 2 == 0) = decide (x % 2 = 0) from rfl]
    rw [Int.pow_succ] at h1 h2
    by_cases h : x % 2 = 0
    · rw [dec_t h, cond_true, if_pos h, tdiv2 h, wrap_id (n := x / 2) (by omega) (by omega), wrap_id (n := k + 1) (by omega) (by omega)]
      refine (implDiv_loop7 c1 c2 c3 A B n (x / 2) (k + 1) (by omega) (by omega) (by omega) (by omega) ⟨by omega, by omega⟩ (by omega) (by omega)).trans ?_
      simp only
      rw [show k + 1 + ((oddP n (x / 2)).2 : Int) = k + (((oddP n (x / 2)).2 + 1 : Nat) : Int) by omega]
    · rw [dec_f h, cond_false, if_neg h]
      simp; rfl

theorem specDiv_loop14 (c1 c2 c3 A B K : Int) : w_spec_l01Div_14 (m_spec_l01Div_14 0 c1 c2 c3 A B K) = some (.inl (d_spec_l01Div_14_0 c1 c2 c3 A B K)) := by
  rw [wq_spec_l01Div_14, u_spec_l01Div_14, dec_f (by omega), cond_false]; rfl

theorem div_ok {V M : Int} {κ : Nat} {x y : Nm} (hx : Bd V κ x) (hy : Bd M 0 y) (hV : 0 ≤ V) (hM : 0 ≤ M) (hM' : M ≤ 1000000000) (hκ : κ ≤ 60) (h1 : V * 2 ^ κ ≤ 2305843009213693952) (h2 : 3 * (V * M) * 2 ^ (κ + 0) ≤ 4611686018427387904) :
    g_spec_l01Div x y = some (divN x y) ∧ g_impl_Num_over x y = some (divN x y) := by
  have hyn : Bd M 0 (y.1, (-y.2.1, 0)) := by
    obtain ⟨y1, y2, y3, y4⟩ := hy
    have : y.2.2 = 0 := by omega
    rw [this] at y3 y4
    exact ⟨by simp, by simp, y3, by simp only at y4 ⊢; omega⟩
  obtain ⟨⟨f1, f2, f3, _⟩, f5, f6, _⟩ := mul_facts hx hy hV h1 h2
  obtain ⟨⟨_, _, _, g4⟩, _, _, g7⟩ := mul_facts hx hyn hV h1 h2
  simp only at g4 g7
  have eA : x.1 * y.1 + 2 * x.2.1 * -y.2.1 = x.1 * y.1 - 2 * x.2.1 * y.2.1 := by grind
  have eB : x.1 * -y.2.1 + x.2.1 * y.1 = x.2.1 * y.1 - x.1 * y.2.1 := by grind
  have hmul := (mul_ok hx hyn hV (by omega) h1 h2).2
  have hbm := mulN_bd hV hx hyn
  have hk1 := hx.1
  have hk2 := hx.2.1
  have hyk : y.2.2 = 0 := by have := hy.1; have := hy.2.1; omega
  have hyb := hy.pow_le hM
  simp only [Int.pow_zero, Int.mul_one] at hyb
  -- the norm
  have sq : ∀ a b : Int, -M ≤ a → a ≤ M → -M ≤ b → b ≤ M → -1000000000000000000 ≤ a * b ∧ a * b ≤ 1000000000000000000 := by
    intro a b p1 p2 p3 p4
    have := prod_bd (a := a) (b := b) (V := M) (V' := M) (p := 1) (q := 1) hM (by decide) (by omega) (by omega) (by omega) (by omega)
    have hMM : M * M ≤ 1000000000 * 1000000000 := Int.mul_le_mul hM' hM' hM (by decide)
    omega
  have s1 := sq y.1 y.1 (by omega) (by omega) (by omega) (by omega)
  have s2 := sq y.2.1 y.2.1 (by omega) (by omega) (by omega) (by omega)
  have e2y : 2 * y.2.1 * y.2.1 = 2 * (y.2.1 * y.2.1) := Int.mul_assoc ..
  have n1 : IntKind.wrap IntKind.i64 ((IntKind.wrap IntKind.i64 (y.1 * y.1)) - (IntKind.wrap IntKind.i64 ((IntKind.wrap IntKind.i64 (2 * y.2.1)) * y.2.1))) = y.1 * y.1 - 2 * y.2.1 * y.2.1 := by
    rw [wrap_id (n := y.1 * y.1) (by omega) (by omega), wrap_id (n := 2 * y.2.1) (by omega) (by omega), wrap_id (n := 2 * y.2.1 * y.2.1) (by omega) (by omega), wrap_id (by omega) (by omega)]
  have nI : I64 (y.1 * y.1 - 2 * y.2.1 * y.2.1) := ⟨by omega, by omega⟩
  have hAb : -4611686018427387904 ≤ x.1 * y.1 - 2 * x.2.1 * y.2.1 ∧ x.1 * y.1 - 2 * x.2.1 * y.2.1 ≤ 4611686018427387904 ∧ -4611686018427387904 ≤ x.2.1 * y.1 - x.1 * y.2.1 ∧ x.2.1 * y.1 - x.1 * y.2.1 ≤ 4611686018427387904 := by
    obtain ⟨x1, x2, x3, x4⟩ := hx
    have hp : (0 : Int) ≤ 2 ^ x.2.2.toNat := Int.le_of_lt (Int.pow_pos (by decide))
    have hpl : (2 : Int) ^ x.2.2.toNat ≤ 2 ^ κ := by
      have := Nat.pow_le_pow_right (show 0 < 2 by decide) (show x.2.2.toNat ≤ κ by omega)
      exact_mod_cast this
    have aa := prod_bd (p := 2 ^ x.2.2.toNat) (q := 1) (V' := M) hV hp x3.1 x3.2 (b := y.1) (by omega) (by omega)
    have bb := prod_bd (p := 2 ^ x.2.2.toNat) (q := 1) (V' := M) hV hp x4.1 x4.2 (b := y.2.1) (by omega) (by omega)
    have ab := prod_bd (p := 2 ^ x.2.2.toNat) (q := 1) (V' := M) hV hp x3.1 x3.2 (b := y.2.1) (by omega) (by omega)
    have ba := prod_bd (p := 2 ^ x.2.2.toNat) (q := 1) (V' := M) hV hp x4.1 x4.2 (b := y.1) (by omega) (by omega)
    rw [Int.mul_one] at aa bb ab ba
    have hVM : 0 ≤ V * M := Int.mul_nonneg hV hM
    have hle := Int.mul_le_mul_of_nonneg_left hpl hVM
    have h3 : 3 * (V * M * 2 ^ κ) ≤ 4611686018427387904 := by rw [← Int.mul_assoc]; exact h2
    have e2 : 2 * x.2.1 * y.2.1 = 2 * (x.2.1 * y.2.1) := Int.mul_assoc ..
    omega
  have w1 : IntKind.wrap IntKind.i64 ((IntKind.wrap IntKind.i64 (x.1 * y.1)) - (IntKind.wrap IntKind.i64 ((IntKind.wrap IntKind.i64 (2 * x.2.1)) * y.2.1))) = x.1 * y.1 - 2 * x.2.1 * y.2.1 := by
    rw [wI f1, wI f2, wI f3, wrap_id (by omega) (by omega)]
  have w2 : IntKind.wrap IntKind.i64 ((IntKind.wrap IntKind.i64 (x.2.1 * y.1)) - (IntKind.wrap IntKind.i64 (x.1 * y.2.1))) = x.2.1 * y.1 - x.1 * y.2.1 := by
    rw [wI f5, wI f6, wrap_id (by omega) (by omega)]
  unfold divN
  generalize hA : x.1 * y.1 - 2 * x.2.1 * y.2.1 = A at *
  generalize hB : x.2.1 * y.1 - x.1 * y.2.1 = B at *
  generalize hN : y.1 * y.1 - 2 * y.2.1 * y.2.1 = N at *
  by_cases h0 : N = 0
  · rw [if_pos h0]
    constructor
    · rw [g_spec_l01Div, t_spec_l01Div, n1, h0]; rfl
    · rw [g_impl_Num_over, t_impl_Num_over, n1, h0]; rfl
  · rw [if_neg h0]
    have i1 := nI.1
    have i2 := nI.2
    have hodd : (oddP 64 N).1 % 2 ≠ 0 := oddP_odd 64 N h0 (by omega) (by omega)
    have hle := oddP_le 64 N
    have hm0 : (oddP 64 N).1 ≠ 0 := fun e => by rw [e] at hodd; exact hodd rfl
    have hNb : (N == 0) = false := by rw [show (N == 0) = decide (N = 0) from rfl, dec_f h0]
    constructor
    · rw [g_spec_l01Div, t_spec_l01Div, n1, hNb, cond_false, w1, w2, specDiv_loop6 y.1 y.2.1 y.2.2 0 0 0 A B 64 N x.2.2 (by omega) h0 (by omega) (by omega) nI hk1 (by omega)]
      simp only [Option.bind_some, exC, x_spec_l01Div_6]
      rw [dec_f hm0, cond_false, tmodz, tmodz]
      by_cases hd : A % (oddP 64 N).1 = 0
      · by_cases hd' : B % (oddP 64 N).1 = 0
        · obtain ⟨q1, q1'⟩ := quot_bd hm0 hd hAb.1 hAb.2.1
          obtain ⟨q2, q2'⟩ := quot_bd hm0 hd' hAb.2.2.1 hAb.2.2.2
          rw [dec_f (fun e => e hd), dec_f (fun e => e hd'), if_pos ⟨hd, hd'⟩]
          simp only [cond_false]
          rw [q1, q2, hyk, specDiv_loop14]
          simp only [Option.bind_some, exC, x_spec_l01Div_14]
          rw [specLow (by omega) (by omega) q1' q2']
          simp only [Option.bind_some]
          rw [show (x.2.2 + ((oddP 64 N).2 : Int)).toNat = x.2.2.toNat + (oddP 64 N).2 by omega]
        · rw [dec_f (fun e => e hd), dec_t hd', if_neg (fun e => hd' e.2)]; rfl
      · rw [dec_t hd, if_neg (fun e => hd e.1)]; rfl
    · have hz : IntKind.wrap IntKind.i64 (0 - y.2.1) = -y.2.1 := by rw [wrap_id (by omega) (by omega)]; omega
      have hT : mulN x (y.1, (-y.2.1, 0)) = low x.2.2.toNat A B := by
        unfold mulN
        simp only
        rw [eA, eB]; rfl
      have hk3 := hbm.1
      have hk4 := hbm.2.1
      rw [hT] at hk3 hk4
      rw [g_impl_Num_over, t_impl_Num_over, n1, hNb, cond_false, hz, hmul, hT]
      simp only [Option.bind_some]
      rw [hyk, Int.sub_zero, wrap_id (n := (low x.2.2.toNat A B).2.2) (by omega) (by omega), implDiv_loop7 0 0 0 _ _ 64 N _ (by omega) h0 (by omega) (by omega) nI hk3 (by omega)]
      obtain ⟨ld1, ld2⟩ := low_div hodd x.2.2.toNat (oddP 64 N).2 A B
      have hTb := low_bd (V := 4611686018427387904) x.2.2.toNat A B
      have hp1 : (1 : Int) ≤ 2 ^ x.2.2.toNat := Int.pow_pos (by decide)
      have hrng : (-4611686018427387904 ≤ (low x.2.2.toNat A B).1 ∧ (low x.2.2.toNat A B).1 ≤ 4611686018427387904) ∧ (-4611686018427387904 ≤ (low x.2.2.toNat A B).2.1 ∧ (low x.2.2.toNat A B).2.1 ≤ 4611686018427387904) := by
        have hb := hbm.pow_le (by have := Int.mul_nonneg hV hM; omega)
        rw [hT] at hb
        omega
      simp only [Option.bind_some, exC, x_impl_Num_over_7]
      rw [dec_f hm0, cond_false, tmodz, tmodz]
      by_cases hd : A % (oddP 64 N).1 = 0 ∧ B % (oddP 64 N).1 = 0
      · have hd2 := ld1.2 hd
        obtain ⟨q1, q1'⟩ := quot_bd hm0 hd2.1 hrng.1.1 hrng.1.2
        obtain ⟨q2, q2'⟩ := quot_bd hm0 hd2.2 hrng.2.1 hrng.2.2
        rw [dec_f (fun e => e hd2.1), dec_f (fun e => e hd2.2), if_pos hd]
        simp only [cond_false]
        rw [dec_f (show ¬ ((low x.2.2.toNat A B).2.2 + ((oddP 64 N).2 : Int) < 0) by omega), cond_false, q1, q2, implLow (by omega) (by omega) q1' q2']
        simp only [Option.bind_some]
        rw [show ((low x.2.2.toNat A B).2.2 + ((oddP 64 N).2 : Int)).toNat = (low x.2.2.toNat A B).2.2.toNat + (oddP 64 N).2 by omega, ld2 hd]
      · rw [if_neg hd]
        by_cases hd1 : (low x.2.2.toNat A B).1 % (oddP 64 N).1 = 0
        · have hd3 : (low x.2.2.toNat A B).2.1 % (oddP 64 N).1 ≠ 0 := fun e => hd (ld1.1 ⟨hd1, e⟩)
          rw [dec_f (fun e => e hd1), dec_t hd3]; rfl
        · rw [dec_t hd1]; rfl

/-! squares -/
theorem two_pow_cases {d : Int} (h0 : 0 ≤ d) (h1 : d < 16) : dotN (vecN d) (vecN d) = (1, (0, 0)) ∨ dotN (vecN d) (vecN d) = (4, (-2, 0)) ∨ dotN (vecN d) (vecN d) = (2, (0, 0)) := by
  rcases sixteen h0 h1 with rfl | rfl | rfl | rfl | rfl | rfl | rfl | rfl | rfl | rfl | rfl | rfl | rfl | rfl | rfl | rfl <;> decide

/-- A direction's square. -/
def sqN (d : Int) : Nm := dotN (vecN d) (vecN d)
theorem sqN_bd {d : Int} (h0 : 0 ≤ d) (h1 : d < 16) : Bd 4 0 (sqN d) := by
  unfold sqN
  rcases two_pow_cases h0 h1 with h | h | h <;> rw [h] <;> (unfold Bd; decide)

/-- How often two divides the square's norm. -/
def sqT (d : Int) : Nat := (oddP 64 ((sqN d).1 * (sqN d).1 - 2 * (sqN d).2.1 * (sqN d).2.1)).2
theorem sqN_div {d : Int} (h0 : 0 ≤ d) (h1 : d < 16) (x : Nm) : divN x (sqN d) = (divP (sqT d) x (sqN d), true) := by
  have h := two_pow_cases h0 h1
  have hs : sqN d = dotN (vecN d) (vecN d) := rfl
  rw [← hs] at h
  refine divN_pow ?_ ?_
  · unfold sqT
    rcases h with h | h | h <;> rw [h] <;> decide
  · rcases h with h | h | h <;> rw [h] <;> decide
theorem sqT_le {d : Int} (h0 : 0 ≤ d) (h1 : d < 16) : sqT d ≤ 3 := by
  have h := two_pow_cases h0 h1
  have hs : sqN d = dotN (vecN d) (vecN d) := rfl
  rw [← hs] at h
  unfold sqT
  rcases h with h | h | h <;> rw [h] <;> decide

theorem specSq {d : Int} (h0 : 0 ≤ d) (h1 : d < 16) : g_spec_l02Square d = some (sqN d) := by
  obtain ⟨hv1, hv2⟩ := vec_bd h0 h1
  obtain ⟨v1, v2⟩ := vec_ok h0 h1
  have m1 := mul_ok hv1 hv1 (by decide) (by decide) (by decide) (by decide)
  have m2 := mul_ok hv2 hv2 (by decide) (by decide) (by decide) (by decide)
  have a := add_ok (mulN_bd (V := 1) (by decide) hv1 hv1) (mulN_bd (V := 1) (by decide) hv2 hv2) (by decide) (by decide) (by decide) (by decide) (by decide)
  rw [g_spec_l02Square, t_spec_l02Square, v1]
  simp only [Option.bind_some, g_spec_l02Of, t_spec_l02Of, g_spec_l01Of, t_spec_l01Of]
  rw [m1.1, m2.1]
  simp only [Option.bind_some]
  rw [a.1]; rfl

theorem implSq {d : Int} (h0 : 0 ≤ d) (h1 : d < 16) : g_impl_Point_dot (vecN d) (vecN d) = some (sqN d) :=
  (dot_ok h0 h1 (by decide) (by decide) (vec_bd h0 h1) (by decide)).2

/-- A point's multiple. -/
def timesN (v : Pt) (x : Nm) : Pt := (mulN v.1 x, mulN v.2 x)
def plusN (p q : Pt) : Pt := (addN p.1 q.1, addN p.2 q.2)
theorem timesN_bd {V V' : Int} {κ κ' : Nat} {v : Pt} {x : Nm} (hV : 0 ≤ V) (hv : Bd V κ v.1 ∧ Bd V κ v.2) (hx : Bd V' κ' x) : Bd (3 * (V * V')) (κ + κ') (timesN v x).1 ∧ Bd (3 * (V * V')) (κ + κ') (timesN v x).2 :=
  ⟨mulN_bd hV hv.1 hx, mulN_bd hV hv.2 hx⟩
theorem plusN_bd {V V' : Int} {κ κ' : Nat} {p q : Pt} (hp : Bd V κ p.1 ∧ Bd V κ p.2) (hq : Bd V' κ' q.1 ∧ Bd V' κ' q.2) : Bd (V + V') (max κ κ') (plusN p q).1 ∧ Bd (V + V') (max κ κ') (plusN p q).2 :=
  ⟨addN_bd hp.1 hq.1, addN_bd hp.2 hq.2⟩

theorem times_ok {V V' : Int} {κ κ' : Nat} {v : Pt} {x : Nm} (hv : Bd V κ v.1 ∧ Bd V κ v.2) (hx : Bd V' κ' x) (hV : 0 ≤ V) (hκ : κ + κ' ≤ 1000) (h1 : V * 2 ^ κ ≤ 2305843009213693952) (h2 : 3 * (V * V') * 2 ^ (κ + κ') ≤ 4611686018427387904) :
    g_impl_Point_times v x = some (timesN v x) := by
  rw [g_impl_Point_times, t_impl_Point_times, (mul_ok hv.1 hx hV hκ h1 h2).2, (mul_ok hv.2 hx hV hκ h1 h2).2]; rfl

theorem plus_ok {V V' : Int} {κ κ' : Nat} {p q : Pt} (hp : Bd V κ p.1 ∧ Bd V κ p.2) (hq : Bd V' κ' q.1 ∧ Bd V' κ' q.2) (hV : 0 ≤ V) (hV' : 0 ≤ V') (hκ : κ ≤ 60) (hκ' : κ' ≤ 60) (h : (V + V') * 2 ^ (max κ κ') ≤ 4611686018427387904) :
    g_impl_Point_plus p q = some (plusN p q) := by
  rw [g_impl_Point_plus, t_impl_Point_plus, (add_ok hp.1 hq.1 hV hV' hκ hκ' h).2, (add_ok hp.2 hq.2 hV hV' hκ hκ' h).2]; rfl

/-! reflections -/
def reflN (l : Ln) (p : Pt) : Pt :=
  plusN p (timesN (vecN (l.1 + 4)) (addN (divP (sqT (l.1 + 4)) (subN l.2 (dotN (vecN (l.1 + 4)) p)) (sqN (l.1 + 4))) (divP (sqT (l.1 + 4)) (subN l.2 (dotN (vecN (l.1 + 4)) p)) (sqN (l.1 + 4)))))

theorem refl_vals (t : Nat) (p n a b s : Nm) : subN p (mulN (addN (divP t (subN a b) s) (divP t (subN a b) s)) n) = addN p (mulN n (addN (divP t (subN b a) s) (divP t (subN b a) s))) := by
  refine can_unique (low_can _ _ _) (low_can _ _ _) ?_ ?_
  · rw [subN_vA, addN_vA, mulN_vA, mulN_vA, addN_vA, addN_vA, addN_vB, addN_vB, divP_vA, divP_vA, divP_vB, divP_vB, subN_vA, subN_vA, subN_vB, subN_vB]
    have := two_pow_ne t
    grind
  · rw [subN_vB, addN_vB, mulN_vB, mulN_vB, addN_vA, addN_vA, addN_vB, addN_vB, divP_vA, divP_vA, divP_vB, divP_vB, subN_vA, subN_vA, subN_vB, subN_vB]
    have := two_pow_ne t
    grind

theorem reflN_bd {V : Int} {κ : Nat} {l : Ln} {p : Pt} (h0 : 0 ≤ l.1) (h1 : l.1 ≤ 7) (hl : Bd 786432 10 l.2) (hV : 0 ≤ V) (hκ : 10 ≤ κ) (hp : Bd V κ p.1 ∧ Bd V κ p.2) : Bd (V + 72 * (786432 + 6 * V)) (κ + 3) (reflN l p).1 ∧ Bd (V + 72 * (786432 + 6 * V)) (κ + 3) (reflN l p).2 := by
  have hd0 : 0 ≤ l.1 + 4 := by omega
  have hd1 : l.1 + 4 < 16 := by omega
  have hdot := dotN_bd (V := 1) (by decide) (vec_bd hd0 hd1) hp
  have hsub := subN_bd hl hdot
  have hdiv := divP_bd (by omega) hsub (sqN_bd hd0 hd1) (sqT_le hd0 hd1)
  have hadd := addN_bd hdiv hdiv
  have ht := timesN_bd (V := 1) (by decide) (vec_bd hd0 hd1) hadd
  have := plusN_bd hp ht
  exact ⟨this.1.mono (by omega) (by omega), this.2.mono (by omega) (by omega)⟩

theorem reflect_ok {V : Int} {κ : Nat} {l : Ln} {p : Pt} (h0 : 0 ≤ l.1) (h1 : l.1 ≤ 7) (hl : Bd 786432 10 l.2) (hV : 0 ≤ V) (hκ : 10 ≤ κ) (hκ' : κ ≤ 50) (hp : Bd V κ p.1 ∧ Bd V κ p.2) (h : (V + 72 * (786432 + 6 * V)) * 2 ^ (κ + 3) ≤ 4611686018427387904) :
    g_spec_l02Reflect l p = some (reflN l p) ∧ g_impl_Line_reflect l p = some (reflN l p) := by
  have hd0 : 0 ≤ l.1 + 4 := by omega
  have hd1 : l.1 + 4 < 16 := by omega
  have hp8 : (2 : Int) ^ (κ + 3) = 8 * 2 ^ κ := by rw [Int.pow_add]; grind
  have hVp : 0 ≤ V * 2 ^ κ := Int.mul_nonneg hV (Int.le_of_lt (Int.pow_pos (by decide)))
  have hpp : (0 : Int) < 2 ^ κ := Int.pow_pos (by decide)
  have eh : (V + 72 * (786432 + 6 * V)) * 2 ^ (κ + 3) = 3464 * (V * 2 ^ κ) + 452984832 * 2 ^ κ := by rw [hp8]; grind
  rw [eh] at h
  have hdot := dotN_bd (V := 1) (by decide) (vec_bd hd0 hd1) hp
  have okdot := dot_ok (d := l.1 + 4) hd0 hd1 hV (by omega) hp (by have : 6 * V * 2 ^ κ = 6 * (V * 2 ^ κ) := Int.mul_assoc .. ; omega)
  have hdot : Bd (6 * V) κ (dotN (vecN (l.1 + 4)) p) := hdot.mono (by omega) (by omega)
  have hmax : max 10 κ = κ := by omega
  have hmax2 : max κ 10 = κ := by omega
  have e1 : (786432 + 6 * V) * 2 ^ κ = 786432 * 2 ^ κ + 6 * (V * 2 ^ κ) := by grind
  have s1 := sub_ok hl hdot (by decide) (by omega) (by decide) (by omega) (by rw [hmax, e1]; omega)
  have s2 := sub_ok hdot hl (by omega) (by decide) (by omega) (by decide) (by rw [hmax2, Int.add_comm, e1]; omega)
  have hs1 := subN_bd hl hdot
  have hs2 := subN_bd hdot hl
  rw [hmax] at hs1
  rw [hmax2, Int.add_comm] at hs2
  have e4 : 3 * ((786432 + 6 * V) * 4) * 2 ^ (κ + 0) = 12 * ((786432 + 6 * V) * 2 ^ κ) := by rw [Nat.add_zero]; grind
  have d1 := div_ok hs1 (sqN_bd hd0 hd1) (by omega) (by decide) (by decide) (by omega) (by rw [e1]; omega) (by rw [e4, e1]; omega)
  have d2 := div_ok hs2 (sqN_bd hd0 hd1) (by omega) (by decide) (by decide) (by omega) (by rw [e1]; omega) (by rw [e4, e1]; omega)
  rw [sqN_div hd0 hd1] at d1 d2
  have b1 := divP_bd (by omega) hs1 (sqN_bd hd0 hd1) (sqT_le hd0 hd1)
  have b2 := divP_bd (by omega) hs2 (sqN_bd hd0 hd1) (sqT_le hd0 hd1)
  have e5 : (12 * (786432 + 6 * V) + 12 * (786432 + 6 * V)) * 2 ^ (κ + 3) = 192 * ((786432 + 6 * V) * 2 ^ κ) := by rw [hp8]; grind
  have a1 := add_ok b1 b1 (by omega) (by omega) (by omega) (by omega) (by rw [Nat.max_self, e5, e1]; omega)
  have a2 := add_ok b2 b2 (by omega) (by omega) (by omega) (by omega) (by rw [Nat.max_self, e5, e1]; omega)
  have c1 := addN_bd b1 b1
  have c2 := addN_bd b2 b2
  rw [Nat.max_self] at c1 c2
  obtain ⟨v1, v2⟩ := vec_bd hd0 hd1
  have e6 : 3 * ((12 * (786432 + 6 * V) + 12 * (786432 + 6 * V)) * 1) * 2 ^ (κ + 3 + 0) = 576 * ((786432 + 6 * V) * 2 ^ κ) := by rw [Nat.add_zero, hp8]; grind
  have e7 : 3 * (1 * (12 * (786432 + 6 * V) + 12 * (786432 + 6 * V))) * 2 ^ (0 + (κ + 3)) = 576 * ((786432 + 6 * V) * 2 ^ κ) := by rw [Nat.zero_add, hp8]; grind
  have m1 := mul_ok c2 v1 (by omega) (by omega) (by rw [e5, e1]; omega) (by rw [e6, e1]; omega)
  have m2 := mul_ok c2 v2 (by omega) (by omega) (by rw [e5, e1]; omega) (by rw [e6, e1]; omega)
  have t1 := times_ok (vec_bd hd0 hd1) c1 (by decide) (by omega) (by decide) (by rw [e7, e1]; omega)
  have tb := timesN_bd (V := 1) (by decide) (vec_bd hd0 hd1) c1
  have mb1 := mulN_bd (by omega) c2 v1
  have mb2 := mulN_bd (by omega) c2 v2
  have e8 : (V + 3 * ((12 * (786432 + 6 * V) + 12 * (786432 + 6 * V)) * 1)) * 2 ^ (κ + 3) = 8 * (V * 2 ^ κ) + 576 * ((786432 + 6 * V) * 2 ^ κ) := by rw [hp8]; grind
  have e9 : (V + 3 * (1 * (12 * (786432 + 6 * V) + 12 * (786432 + 6 * V)))) * 2 ^ (κ + 3) = 8 * (V * 2 ^ κ) + 576 * ((786432 + 6 * V) * 2 ^ κ) := by rw [hp8]; grind
  have hm1 : max κ (κ + 3 + 0) = κ + 3 := by omega
  have hm2 : max κ (0 + (κ + 3)) = κ + 3 := by omega
  have f1 := sub_ok hp.1 mb1 hV (by omega) (by omega) (by omega) (by rw [hm1, e8, e1]; omega)
  have f2 := sub_ok hp.2 mb2 hV (by omega) (by omega) (by omega) (by rw [hm1, e8, e1]; omega)
  have p1 := plus_ok hp tb hV (by omega) (by omega) (by omega) (by rw [hm2, e9, e1]; omega)
  have hw : IntKind.wrap .i64 (l.1 + 4) = l.1 + 4 := wrap_id (by omega) (by omega)
  constructor
  · rw [g_spec_l02Reflect, t_spec_l02Reflect, hw, (vec_ok hd0 hd1).1]
    simp only [Option.bind_some, g_spec_l02Of, t_spec_l02Of, g_spec_l01Of, t_spec_l01Of]
    rw [okdot.1, Option.bind_some, s2.1, Option.bind_some, specSq hd0 hd1, Option.bind_some, d2.1, Option.bind_some]
    try simp only
    rw [a2.1, Option.bind_some, m1.1, Option.bind_some, m2.1, Option.bind_some, g_spec_l02Minus, t_spec_l02Minus, f1.1, Option.bind_some, f2.1, Option.bind_some, Option.bind_some, refl_vals, refl_vals]
    rfl
  · rw [g_impl_Line_reflect, t_impl_Line_reflect, g_impl_Line_normal, t_impl_Line_normal]
    try simp only
    rw [hw, (vec_ok hd0 hd1).2]
    simp only [Option.bind_some]
    rw [okdot.2, Option.bind_some, s1.2, Option.bind_some, implSq hd0 hd1, Option.bind_some, d1.2, Option.bind_some]
    try simp only
    rw [a1.2, Option.bind_some, t1, Option.bind_some, p1]
    rfl

theorem num_zero {x : Nm} (hc : x.can) : ((x.1 == 0) && ((x.2.1 == 0) && ((x.2.2 == 0) && true))) = decide (x.1 = 0 ∧ x.2.1 = 0) := by
  rw [Bool.eq_iff_iff]
  simp only [Bool.and_eq_true, beq_iff_eq, Bool.and_true, decide_eq_true_eq]
  constructor
  · exact fun h => ⟨h.1, h.2.1⟩
  · rintro ⟨h1, h2⟩
    refine ⟨h1, h2, ?_⟩
    rcases hc.2 with h | h | h
    · exact h
    · rw [h1] at h; exact absurd rfl h
    · rw [h2] at h; exact absurd rfl h

/-! signs -/
theorem tot_cond {A : Type} {c : Bool} {x y : Option A} (h : ∃ r, x = some r) (h' : ∃ r, y = some r) : ∃ r, cond c x y = some r := by
  cases c
  · exact h'
  · exact h

theorem specSquare_tot (a : Int) : ∃ r, g_spec_l01Square a = some r := by
  unfold g_spec_l01Square t_spec_l01Square
  exact tot_cond (tot_cond ⟨_, rfl⟩ ⟨_, rfl⟩) (tot_cond ⟨_, rfl⟩ ⟨_, rfl⟩)

theorem specLess_tot (a b : Int) : ∃ r, g_spec_l01Less a b = some r := by
  obtain ⟨r, hr⟩ := specSquare_tot a
  obtain ⟨s, hs⟩ := specSquare_tot b
  unfold g_spec_l01Less t_spec_l01Less
  rw [hr, hs]
  exact tot_cond ⟨_, rfl⟩ (tot_cond ⟨_, rfl⟩ ⟨_, rfl⟩)

/-- The sign, from the comparison. -/
def sgS (r : Bool) (a b : Int) : Int :=
  if a = 0 ∧ b = 0 then 0 else if 0 ≤ a ∧ 0 ≤ b then 1 else if a ≤ 0 ∧ b ≤ 0 then -1 else if r = decide (b > 0) then 1 else -1

theorem specSign_eq {x : Nm} {r : Bool} (h : g_spec_l01Less x.1 x.2.1 = some r) : g_spec_l01Sign x = some (sgS r x.1 x.2.1) := by
  unfold g_spec_l01Sign t_spec_l01Sign sgS
  simp only [h, Option.bind_some]
  rw [show (x.1 == 0) = decide (x.1 = 0) from rfl, show (x.2.1 == 0) = decide (x.2.1 = 0) from rfl, show (r == decide (x.2.1 > 0)) = decide (r = decide (x.2.1 > 0)) from rfl]
  generalize x.1 = a
  generalize x.2.1 = b
  by_cases h1 : a = 0 <;> by_cases h2 : b = 0 <;> by_cases h3 : 0 ≤ a <;> by_cases h4 : 0 ≤ b <;> by_cases h5 : a ≤ 0 <;> by_cases h6 : b ≤ 0 <;> first
    | omega
    | (by_cases h7 : r = decide (b > 0) <;> simp [h1, h2, h3, h4, h5, h6, h7])

def sg1 (a : Int) : Int := if a > 0 then 1 else if a < 0 then -1 else 0
theorem implSignOf (a : Int) : g_impl_signOf a = some (sg1 a) := by
  unfold g_impl_signOf t_impl_signOf sg1
  congr 1
  simp only [if_true, Bool.false_eq_true, if_false]
  repeat' split
  all_goals omega

theorem implGreater_tot (a b : Int) : ∃ r, g_impl_isGreater a b = some r := by
  unfold g_impl_isGreater t_impl_isGreater g_impl_abs t_impl_abs g_math_bits_Mul64 t_math_bits_Mul64
  simp only [Option.bind_some]
  exact tot_cond ⟨_, rfl⟩ (tot_cond ⟨_, rfl⟩ ⟨_, rfl⟩)

def sgI (r : Bool) (a b : Int) : Int :=
  if sg1 a = sg1 b then sg1 a else if sg1 b = 0 then sg1 a else if sg1 a = 0 then sg1 b else if r = true then sg1 a else sg1 b

theorem implSign_eq {x : Nm} {r : Bool} (h : g_impl_isGreater x.1 x.2.1 = some r) : g_impl_Num_sign x = some (sgI r x.1 x.2.1) := by
  unfold g_impl_Num_sign t_impl_Num_sign sgI
  simp only [h, implSignOf, Option.bind_some]
  rw [show (sg1 x.1 == sg1 x.2.1) = decide (sg1 x.1 = sg1 x.2.1) from rfl, show (sg1 x.2.1 == 0) = decide (sg1 x.2.1 = 0) from rfl, show (sg1 x.1 == 0) = decide (sg1 x.1 = 0) from rfl]
  by_cases h1 : sg1 x.1 = sg1 x.2.1
  · simp [h1]
  · by_cases h2 : sg1 x.2.1 = 0
    · simp [h2]
    · by_cases h3 : sg1 x.1 = 0
      · rw [dec_f h1, dec_f h2, dec_t h3, cond_false, cond_false, cond_true, if_neg h1, if_neg h2, if_pos h3]
      · cases r <;> simp [h1, h2, h3]

theorem specSign_zero (x : Nm) : ∃ s, g_spec_l01Sign x = some s ∧ (s = 0 ↔ (x.1 = 0 ∧ x.2.1 = 0)) := by
  obtain ⟨r, hr⟩ := specLess_tot x.1 x.2.1
  refine ⟨_, specSign_eq hr, ?_⟩
  unfold sgS
  repeat' split
  all_goals (constructor <;> intro h <;> omega)

theorem sg1_zero {a : Int} : sg1 a = 0 ↔ a = 0 := by unfold sg1; repeat' split
                                                     all_goals omega

theorem implSign_zero (x : Nm) : ∃ s, g_impl_Num_sign x = some s ∧ (s = 0 ↔ (x.1 = 0 ∧ x.2.1 = 0)) := by
  obtain ⟨r, hr⟩ := implGreater_tot x.1 x.2.1
  refine ⟨_, implSign_eq hr, ?_⟩
  unfold sgI
  repeat' split
  · rename_i h; rw [sg1_zero]; constructor
    · intro e; exact ⟨e, by rw [← sg1_zero, ← h, sg1_zero]; exact e⟩
    · exact fun e => e.1
  · rename_i h; rw [sg1_zero] at h ⊢; exact ⟨fun e => ⟨e, h⟩, fun e => e.1⟩
  · rename_i h; rw [sg1_zero] at h ⊢; exact ⟨fun e => ⟨h, e⟩, fun e => e.2⟩
  · rename_i h _; rw [sg1_zero] at h ⊢; exact ⟨fun e => absurd e h, fun e => absurd e.1 h⟩
  · rename_i h _ _; rw [sg1_zero] at h ⊢; exact ⟨fun e => absurd e h, fun e => absurd e.2 h⟩

/-! signs, told -/
theorem wU {n : Int} (h0 : 0 ≤ n) (h1 : n < 18446744073709551616) : IntKind.wrap .u64 n = n := by
  simp only [IntKind.wrap, IntKind.bits, IntKind.signed]
  have : n % (2 ^ 64 : Int) = n := by omega
  simp only [this]
  simp

theorem and32 {u : Int} (h0 : 0 ≤ u) (h1 : u < 4294967296) : IntKind.wrap .u64 (((BitVec.toNat ((BitVec.ofInt 64 u) &&& (BitVec.ofInt 64 (4294967295 : Int)))) : Nat) : Int) = u := by
  have := and_nat u 4294967295 (by omega)
  rw [show ((4294967295 : Nat) : Int) = 4294967295 from rfl] at this
  rw [this, show (4294967295 : Nat) = 2 ^ 32 - 1 from rfl, Nat.and_two_pow_sub_one_eq_mod, wU (by omega) (by omega)]
  omega

theorem fd32 {u : Int} (h0 : 0 ≤ u) (h1 : u < 4294967296) : Int.fdiv u ((2 : Int) ^ (Min.min (Int.toNat (32 : Int)) 64)) = 0 := by
  rw [show ((2 : Int) ^ (Min.min (Int.toNat (32 : Int)) 64)) = 4294967296 from rfl, Int.fdiv_eq_ediv_of_nonneg _ (by decide)]
  omega

theorem sqb {a : Int} (h0 : -2147483647 ≤ a) (h1 : a ≤ 2147483647) : 0 ≤ a * a ∧ a * a ≤ 4611686014132420609 := by
  have := prod_bd (a := a) (b := a) (V := 2147483647) (V' := 2147483647) (p := 1) (q := 1) (by decide) (by decide) (by omega) (by omega) (by omega) (by omega)
  refine ⟨?_, by omega⟩
  by_cases h : 0 ≤ a
  · exact Int.mul_nonneg h h
  · have := Int.mul_nonneg (show 0 ≤ -a by omega) (show 0 ≤ -a by omega)
    rw [Int.neg_mul_neg] at this
    exact this

theorem specSquare_ok {a : Int} (h0 : -2147483647 ≤ a) (h1 : a ≤ 2147483647) : g_spec_l01Square a = some (0, a * a) := by
  have hs := sqb h0 h1
  unfold g_spec_l01Square t_spec_l01Square
  by_cases h : a < 0
  · have eu : IntKind.wrap .u64 (IntKind.wrap .i64 (0 - a)) = -a := by rw [wrap_id (by omega) (by omega), wU (by omega) (by omega)]; omega
    have hs' : -a * -a = a * a := Int.neg_mul_neg a a
    rw [dec_t h, cond_true, eu, and32 (by omega) (by omega), fd32 (by omega) (by omega)]
    simp only [Int.mul_zero, hs']
    rw [wU hs.1 (by omega), wU (n := 0) (by decide) (by decide), fd32 (by decide) (by decide), Int.zero_mul, wU (n := 0) (by decide) (by decide), Int.add_zero, wU hs.1 (by omega), dec_f (by omega), cond_false]
    rfl
  · have eu : IntKind.wrap .u64 a = a := wU (by omega) (by omega)
    rw [dec_f h, cond_false, eu, and32 (by omega) (by omega), fd32 (by omega) (by omega)]
    simp only [Int.mul_zero]
    rw [wU hs.1 (by omega), wU (n := 0) (by decide) (by decide), fd32 (by decide) (by decide), Int.zero_mul, wU (n := 0) (by decide) (by decide), Int.add_zero, wU hs.1 (by omega), dec_f (by omega), cond_false]
    rfl

theorem fd63 {u : Int} (h0 : 0 ≤ u) (h1 : u ≤ 4611686014132420609) : Int.fdiv u ((2 : Int) ^ (Min.min (Int.toNat (63 : Int)) 64)) = 0 := by
  rw [show ((2 : Int) ^ (Min.min (Int.toNat (63 : Int)) 64)) = 9223372036854775808 from rfl, Int.fdiv_eq_ediv_of_nonneg _ (by decide)]
  omega

theorem specLess_ok {a b : Int} (h0 : -2147483647 ≤ a) (h1 : a ≤ 2147483647) (h2 : -2147483647 ≤ b) (h3 : b ≤ 2147483647) : g_spec_l01Less a b = some (decide (a * a < 2 * (b * b))) := by
  have ha := sqb h0 h1
  have hb := sqb h2 h3
  unfold g_spec_l01Less t_spec_l01Less
  rw [specSquare_ok h0 h1, specSquare_ok h2 h3]
  simp only [Option.bind_some]
  rw [fd63 hb.1 hb.2, Int.zero_mul, wU (n := 0) (by decide) (by decide), Int.add_zero, wU (n := 0) (by decide) (by decide), dec_f (by decide), cond_false, wU (n := b * b * 2) (by omega) (by omega), Int.mul_comm (b * b) 2]
  rfl

theorem implAbs_ok {a : Int} (h0 : -2147483647 ≤ a) (h1 : a ≤ 2147483647) : g_impl_abs a = some (if a < 0 then -a else a) := by
  unfold g_impl_abs t_impl_abs
  congr 1
  simp only [if_true]
  rw [wrap_id (n := 0 - a) (by omega) (by omega)]
  repeat' split
  all_goals omega

theorem mul64_ok {u : Int} (h0 : 0 ≤ u) (h1 : u ≤ 2147483647) : g_math_bits_Mul64 u u = some (0, u * u) := by
  have hs := sqb (a := u) (by omega) h1
  unfold g_math_bits_Mul64 t_math_bits_Mul64
  rw [and32 h0 (by omega), fd32 h0 (by omega)]
  simp only [Int.zero_mul, Int.mul_zero]
  rw [wU (n := 0) (by decide) (by decide), Int.zero_add, wU hs.1 (by omega)]
  have hf : 0 ≤ Int.fdiv (u * u) ((2 : Int) ^ (Min.min (Int.toNat (32 : Int)) 64)) ∧ Int.fdiv (u * u) ((2 : Int) ^ (Min.min (Int.toNat (32 : Int)) 64)) < 4294967296 := by
    rw [show ((2 : Int) ^ (Min.min (Int.toNat (32 : Int)) 64)) = 4294967296 from rfl, Int.fdiv_eq_ediv_of_nonneg _ (by decide)]
    omega
  generalize Int.fdiv (u * u) ((2 : Int) ^ (Min.min (Int.toNat (32 : Int)) 64)) = t at *
  rw [Int.zero_add, wU (n := t) (by omega) (by omega), fd32 (u := t) (by omega) (by omega), and32 (u := t) (by omega) (by omega), Int.add_zero, wU (n := t) (by omega) (by omega), fd32 (u := t) (by omega) (by omega)]
  rfl

theorem implGreater_ok {a b : Int} (h0 : -2147483647 ≤ a) (h1 : a ≤ 2147483647) (h2 : -2147483647 ≤ b) (h3 : b ≤ 2147483647) : g_impl_isGreater a b = some (decide (a * a > 2 * (b * b))) := by
  have ha := sqb h0 h1
  have hb := sqb h2 h3
  have ab : ∀ c : Int, -2147483647 ≤ c → c ≤ 2147483647 → g_math_bits_Mul64 (IntKind.wrap .u64 (if c < 0 then -c else c)) (IntKind.wrap .u64 (if c < 0 then -c else c)) = some (0, c * c) := by
    intro c k0 k1
    rw [wU (by split <;> omega) (by split <;> omega), mul64_ok (by split <;> omega) (by split <;> omega)]
    split
    · rw [Int.neg_mul_neg]
    · rfl
  unfold g_impl_isGreater t_impl_isGreater
  simp only [implAbs_ok h0 h1, implAbs_ok h2 h3, Option.bind_some, ab a h0 h1, ab b h2 h3]
  rw [fd63 hb.1 hb.2, Int.zero_mul, wU (n := 0) (by decide) (by decide)]
  have hz : IntKind.wrap IntKind.u64 (((BitVec.toNat ((BitVec.ofInt 64 (0 : Int)) ||| (BitVec.ofInt 64 (0 : Int)))) : Nat) : Int) = 0 := by decide
  rw [hz, dec_f (by decide), cond_false, show ((2 : Int) ^ (Min.min (Int.toNat (1 : Int)) 64)) = 2 from rfl, wU (n := b * b * 2) (by omega) (by omega), Int.mul_comm (b * b) 2]
  rfl

/-- Twice a square is no square. -/
theorem two_sq : ∀ (n : Nat) (a b : Int), a.natAbs ≤ n → a * a = 2 * (b * b) → a = 0
  | 0, a, b, h, _ => by omega
  | n + 1, a, b, h, e => by
    by_cases h0 : a = 0
    · exact h0
    · exfalso
      have ha : a % 2 = 0 := by
        by_cases h2 : a % 2 = 0
        · exact h2
        · have : (a * a) % 2 = 1 := by rw [Int.mul_emod, show a % 2 = 1 by omega]; rfl
          omega
      have ea : a = 2 * (a / 2) := by omega
      have e2 : b * b = 2 * ((a / 2) * (a / 2)) := by
        have : a * a = 4 * ((a / 2) * (a / 2)) := by
          conv => lhs; rw [ea]
          grind
        omega
      have hb : b % 2 = 0 := by
        by_cases h2 : b % 2 = 0
        · exact h2
        · have : (b * b) % 2 = 1 := by rw [Int.mul_emod, show b % 2 = 1 by omega]; rfl
          omega
      have eb : b = 2 * (b / 2) := by omega
      have e3 : (a / 2) * (a / 2) = 2 * ((b / 2) * (b / 2)) := by
        have : b * b = 4 * ((b / 2) * (b / 2)) := by
          conv => lhs; rw [eb]
          grind
        omega
      have := two_sq n (a / 2) (b / 2) (by omega) e3
      omega

/-- A number's sign. -/
def signN (x : Nm) : Int := sgS (decide (x.1 * x.1 < 2 * (x.2.1 * x.2.1))) x.1 x.2.1

theorem sign_ok {x : Nm} (h0 : -2147483647 ≤ x.1) (h1 : x.1 ≤ 2147483647) (h2 : -2147483647 ≤ x.2.1) (h3 : x.2.1 ≤ 2147483647) : g_spec_l01Sign x = some (signN x) ∧ g_impl_Num_sign x = some (signN x) := by
  refine ⟨specSign_eq (specLess_ok h0 h1 h2 h3), (implSign_eq (implGreater_ok h0 h1 h2 h3)).trans ?_⟩
  congr 1
  unfold signN sgI sgS
  have hne : x.1 * x.1 = 2 * (x.2.1 * x.2.1) → x.1 = 0 := two_sq _ _ _ (Nat.le_refl _)
  have hsq : ∀ a : Int, a ≠ 0 → 0 < a * a := by
    intro a ha
    by_cases h : 0 < a
    · exact Int.mul_pos h h
    · have := Int.mul_pos (show 0 < -a by omega) (show 0 < -a by omega)
      rw [Int.neg_mul_neg] at this
      exact this
  generalize hp : x.1 * x.1 = p at *
  generalize hq : x.2.1 * x.2.1 = q at *
  have k1 := hsq x.1
  have k2 := hsq x.2.1
  rw [hp] at k1
  rw [hq] at k2
  generalize x.1 = a at *
  generalize x.2.1 = b at *
  unfold sg1
  by_cases l1 : p < 2 * q
  · have l2 : ¬ p > 2 * q := by omega
    simp only [l1, l2, decide_true, decide_false]
    by_cases a0 : a > 0 <;> by_cases a1 : a < 0 <;> by_cases b0 : b > 0 <;> by_cases b1 : b < 0 <;> first
      | omega
      | (simp [a0, a1, b0, b1]; try omega)
  · by_cases l2 : p > 2 * q
    · simp only [l1, l2, decide_true, decide_false]
      by_cases a0 : a > 0 <;> by_cases a1 : a < 0 <;> by_cases b0 : b > 0 <;> by_cases b1 : b < 0 <;> first
        | omega
        | (simp [a0, a1, b0, b1]; try omega)
    · have ha0 : a = 0 := hne (by omega)
      have hb0 : b = 0 := by
        by_cases hb : b = 0
        · exact hb
        · have hq0 := k2 hb
          have hp0 : p = 0 := by rw [← hp, ha0]; rfl
          omega
      rw [ha0, hb0]
      simp

end Go.Proofs.YtooaomcmhgpbpaaDoor
