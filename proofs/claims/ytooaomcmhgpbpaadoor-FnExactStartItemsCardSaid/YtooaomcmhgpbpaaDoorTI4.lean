/- Directions. No conditions. -/
import Derived.Test.YtooaomcmhgpbpaaDoorTI3
namespace Go.Proofs.YtooaomcmhgpbpaaDoor
open Go.Vai
/-! directions of points -/
theorem specVec_mod {d : Int} (h0 : 0 ≤ d) (h1 : d ≤ 900) : g_spec_l02Vec d = g_spec_l02Vec (d % 16) := by
  rw [g_spec_l02Vec, t_spec_l02Vec, g_spec_l02Vec, t_spec_l02Vec, mod_ok d (by omega) (by omega), mod_ok (d % 16) (by omega) (by omega), show d % 16 % 16 = d % 16 by omega]

theorem specDot_mod {d : Int} (h0 : 0 ≤ d) (h1 : d ≤ 900) (p : Pt) : g_spec_l02Dot d p = g_spec_l02Dot (d % 16) p := by
  rw [g_spec_l02Dot, t_spec_l02Dot, g_spec_l02Dot, t_spec_l02Dot, specVec_mod h0 h1]

theorem vec_turn {d : Int} (h0 : 0 ≤ d) (h1 : d < 16) : (vecN ((d + 4) % 16)).1 = negN (vecN d).2 ∧ (vecN ((d + 4) % 16)).2 = (vecN d).1 := by
  rcases sixteen h0 h1 with rfl | rfl | rfl | rfl | rfl | rfl | rfl | rfl | rfl | rfl | rfl | rfl | rfl | rfl | rfl | rfl <;> decide

theorem cross_eq {d : Int} (h0 : 0 ≤ d) (h1 : d < 16) (p : Pt) : subN (mulN (vecN d).1 p.2) (mulN (vecN d).2 p.1) = dotN (vecN ((d + 4) % 16)) p := by
  obtain ⟨e1, e2⟩ := vec_turn h0 h1
  unfold dotN
  rw [e1, e2]
  refine can_unique (subN_can _ _) (addN_can _ _) ?_ ?_
  · simp only [subN_vA, addN_vA, mulN_vA, negN_vA, negN_vB]; grind
  · simp only [subN_vB, addN_vB, mulN_vB, negN_vA, negN_vB]; grind

theorem cross_ok {V : Int} {κ : Nat} {d : Int} {p : Pt} (h0 : 0 ≤ d) (h1 : d < 16) (hV : 0 ≤ V) (hκ : κ ≤ 60) (hp : Bd V κ p.1 ∧ Bd V κ p.2) (h : 6 * V * 2 ^ κ ≤ 4611686018427387904) :
    g_impl_Point_cross (vecN d) p = some (dotN (vecN ((d + 4) % 16)) p) := by
  obtain ⟨hv1, hv2⟩ := vec_bd h0 h1
  have hpw : 0 ≤ V * 2 ^ κ := Int.mul_nonneg hV (Int.le_of_lt (Int.pow_pos (by decide)))
  have e : 6 * V * 2 ^ κ = 6 * (V * 2 ^ κ) := Int.mul_assoc ..
  have k3 : 3 * (1 * V) * 2 ^ (0 + κ) ≤ 4611686018427387904 := by
    rw [Nat.zero_add, Int.one_mul, Int.mul_assoc]; omega
  have m1 := mul_ok hv1 hp.2 (by decide) (by omega) (by decide) k3
  have m2 := mul_ok hv2 hp.1 (by decide) (by omega) (by decide) k3
  have b1 := mulN_bd (V := 1) (by decide) hv1 hp.2
  have b2 := mulN_bd (V := 1) (by decide) hv2 hp.1
  have a := sub_ok b1 b2 (by omega) (by omega) (by omega) (by omega) (by
    rw [Nat.max_self, Nat.zero_add]
    have : (3 * (1 * V) + 3 * (1 * V)) * 2 ^ κ = 6 * (V * 2 ^ κ) := by grind
    omega)
  rw [g_impl_Point_cross, t_impl_Point_cross, m1.2, Option.bind_some, m2.2, Option.bind_some, a.2, cross_eq h0 h1]
  rfl

/-- Does a point lie in a direction? -/
def inDir (d : Int) (p : Pt) : Bool := decide ((dotN (vecN ((d + 4) % 16)) p).1 = 0 ∧ (dotN (vecN ((d + 4) % 16)) p).2.1 = 0) && decide (signN (dotN (vecN d) p) > 0)

/-- The first direction from one on. -/
def dirO : Nat → Int → Pt → Option Int
  | 0, _, _ => none
  | n + 1, d, p => cond (inDir d p) (some d) (dirO n (d + 1) p)

theorem dirO_bd : ∀ (n : Nat) (d : Int) (p : Pt) (r : Int), dirO n d p = some r → d ≤ r ∧ r < d + n
  | 0, _, _, _, h => by cases h
  | n + 1, d, p, r, h => by
    rw [dirO] at h
    cases hc : inDir d p
    · rw [hc] at h
      have := dirO_bd n (d + 1) p r h
      omega
    · rw [hc] at h
      simp only [cond_true, Option.some.injEq] at h
      omega

theorem dir_pre {p : Pt} (hp : Bd 262144 10 p.1 ∧ Bd 262144 10 p.2) {d : Int} (h0 : 0 ≤ d) (h1 : d < 16) : (-2147483647 ≤ (dotN (vecN d) p).1 ∧ (dotN (vecN d) p).1 ≤ 2147483647) ∧ (-2147483647 ≤ (dotN (vecN d) p).2.1 ∧ (dotN (vecN d) p).2.1 ≤ 2147483647) := by
  have hb := dotN_bd (V := 1) (by decide) (vec_bd h0 h1) hp
  have := hb.pow_le (by decide)
  have e : (3 * (1 * 262144) + 3 * (1 * 262144) : Int) * 2 ^ (0 + 10) = 1610612736 := by decide
  rw [e] at this
  omega

theorem specDir_loop {p : Pt} (hp : Bd 262144 10 p.1 ∧ Bd 262144 10 p.2) : ∀ (n : Nat) (d : Int), 0 ≤ d → d + n = 16 →
    w_spec_l02Direction_3 (m_spec_l02Direction_3 d p.1.1 p.1.2.1 p.1.2.2 p.2.1 p.2.2.1 p.2.2.2) = some (match dirO n d p with | some r => .inl (d_spec_l02Direction_3_0 r) | none => .inr (.inl d_spec_l02Direction_3_1))
  | 0, d, h0, h1 => by
    rw [wq_spec_l02Direction_3, u_spec_l02Direction_3, dec_f (by omega), cond_false]; rfl
  | n + 1, d, h0, h1 => by
    have hd := dot_ok (d := d) h0 (by omega) (by decide) (by decide) hp (by decide)
    have hd4 := dot_ok (d := (d + 4) % 16) (by omega) (by omega) (by decide) (by decide) hp (by decide)
    have hs := dir_pre hp h0 (show d < 16 by omega)
    have IH := specDir_loop hp n (d + 1) (by omega) (by omega)
    rw [wq_spec_l02Direction_3, u_spec_l02Direction_3, dec_t (by omega), cond_true, wrap_id (n := d + 4) (by omega) (by omega), specDot_mod (by omega) (by omega)]
    try simp only
    rw [hd4.1, Option.bind_some, zero_ok, Option.bind_some, dirO]
    unfold inDir
    by_cases hz : (dotN (vecN ((d + 4) % 16)) p).1 = 0 ∧ (dotN (vecN ((d + 4) % 16)) p).2.1 = 0
    · rw [dec_t hz, cond_true, hd.1, Option.bind_some, (sign_ok hs.1.1 hs.1.2 hs.2.1 hs.2.2).1, Option.bind_some, Bool.true_and]
      by_cases hg : signN (dotN (vecN d) p) > 0
      · rw [dec_t hg, cond_true, cond_true]; rfl
      · rw [dec_f hg, cond_false, cond_false, wrap_id (n := d + 1) (by omega) (by omega)]
        exact IH
    · rw [dec_f hz, cond_false, Bool.false_and, cond_false, wrap_id (n := d + 1) (by omega) (by omega)]
      exact IH

theorem implDir_loop {p : Pt} (hp : Bd 262144 10 p.1 ∧ Bd 262144 10 p.2) : ∀ (n : Nat) (d : Int), 0 ≤ d → d + n = 16 →
    w_impl_direction_4 (m_impl_direction_4 d p.1.1 p.1.2.1 p.1.2.2 p.2.1 p.2.2.1 p.2.2.2) = some (match dirO n d p with | some r => .inl (d_impl_direction_4_0 r) | none => .inr (.inl d_impl_direction_4_1))
  | 0, d, h0, h1 => by
    rw [wq_impl_direction_4, u_impl_direction_4, dec_f (by omega), cond_false]; rfl
  | n + 1, d, h0, h1 => by
    have hd := dot_ok (d := d) h0 (by omega) (by decide) (by decide) hp (by decide)
    have hc := cross_ok (d := d) h0 (by omega) (by decide) (by decide) hp (by decide)
    have hs := dir_pre hp h0 (show d < 16 by omega)
    have IH := implDir_loop hp n (d + 1) (by omega) (by omega)
    rw [wq_impl_direction_4, u_impl_direction_4, dec_t (by omega), cond_true, (vec_ok h0 (show d < 16 by omega)).2, Option.bind_some]
    try simp only
    rw [hc, Option.bind_some, num_zero (show (dotN (vecN ((d + 4) % 16)) p).can from addN_can _ _), dirO]
    unfold inDir
    by_cases hz : (dotN (vecN ((d + 4) % 16)) p).1 = 0 ∧ (dotN (vecN ((d + 4) % 16)) p).2.1 = 0
    · rw [dec_t hz, cond_true, hd.2, Option.bind_some, (sign_ok hs.1.1 hs.1.2 hs.2.1 hs.2.2).2, Option.bind_some, Bool.true_and]
      by_cases hg : signN (dotN (vecN d) p) > 0
      · rw [dec_t hg, cond_true, cond_true]; rfl
      · rw [dec_f hg, cond_false, cond_false, wrap_id (n := d + 1) (by omega) (by omega)]
        exact IH
    · rw [dec_f hz, cond_false, Bool.false_and, cond_false, wrap_id (n := d + 1) (by omega) (by omega)]
      exact IH

def subP (p q : Pt) : Pt := (subN p.1 q.1, subN p.2 q.2)
theorem subP_bd {p q : Pt} (hp : okP p = true) (hq : okP q = true) : Bd 262144 10 (subP p q).1 ∧ Bd 262144 10 (subP p q).2 := by
  have bp := okP_bd hp
  have bq := okP_bd hq
  exact ⟨subN_bd bp.1 bq.1, subN_bd bp.2 bq.2⟩

/-- The direction from one point to another. -/
def dirN (p q : Pt) : Option Int := dirO 16 0 (subP q p)

theorem specDir_ok {p q : Pt} (hp : okP p = true) (hq : okP q = true) : (g_spec_l02Minus q p).bind (fun v => g_spec_l02Direction v) = some (match dirN p q with | some d => d | none => -1) := by
  have bp := okP_bd hp
  have bq := okP_bd hq
  have hb := subP_bd hq hp
  have s1 := sub_ok bq.1 bp.1 (by decide) (by decide) (by decide) (by decide) (by decide)
  have s2 := sub_ok bq.2 bp.2 (by decide) (by decide) (by decide) (by decide) (by decide)
  rw [g_spec_l02Minus, t_spec_l02Minus, s1.1, Option.bind_some, s2.1, Option.bind_some, Option.bind_some, g_spec_l02Direction, t_spec_l02Direction]
  have hl := specDir_loop hb 16 0 (by decide) (by decide)
  unfold dirN
  have hl' : w_spec_l02Direction_3 (m_spec_l02Direction_3 0 (subN q.1 p.1).1 (subN q.1 p.1).2.1 (subN q.1 p.1).2.2 (subN q.2 p.2).1 (subN q.2 p.2).2.1 (subN q.2 p.2).2.2) = _ := hl
  rw [hl']
  cases dirO 16 0 (subP q p) <;> rfl

theorem implDir_ok {p q : Pt} (hp : okP p = true) (hq : okP q = true) : g_impl_direction p q = some (match dirN p q with | some d => d | none => -1) := by
  have bp := okP_bd hp
  have bq := okP_bd hq
  have hb := subP_bd hq hp
  have s1 := sub_ok bq.1 bp.1 (by decide) (by decide) (by decide) (by decide) (by decide)
  have s2 := sub_ok bq.2 bp.2 (by decide) (by decide) (by decide) (by decide) (by decide)
  rw [g_impl_direction, t_impl_direction, g_impl_Point_minus, t_impl_Point_minus, s1.2, Option.bind_some, s2.2, Option.bind_some, Option.bind_some]
  have hl := implDir_loop hb 16 0 (by decide) (by decide)
  unfold dirN
  have hl' : w_impl_direction_4 (m_impl_direction_4 0 (subN q.1 p.1).1 (subN q.1 p.1).2.1 (subN q.1 p.1).2.2 (subN q.2 p.2).1 (subN q.2 p.2).2.1 (subN q.2 p.2).2.2) = _ := hl
  rw [hl']
  cases dirO 16 0 (subP q p) <;> rfl

theorem dirN_bd {p q : Pt} {d : Int} (h : dirN p q = some d) : 0 ≤ d ∧ d < 16 := by
  have := dirO_bd 16 0 _ _ h
  omega

end Go.Proofs.YtooaomcmhgpbpaaDoor
