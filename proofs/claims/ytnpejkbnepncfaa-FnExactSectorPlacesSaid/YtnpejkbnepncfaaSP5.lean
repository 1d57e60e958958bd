/- The plain law on SectorPlaces: what the law computes is true. No conditions. -/
import Derived.Test.YtnpejkbnepncfaaSP4
namespace Go.Proofs.Ytnpejkbnepncfaa
open Go.Vai

theorem ixf_impl_ValidCone_1_loop (l : List Int) (hl : l.length ≤ 4611686018427387904) (P : Int → Bool) (hP : ∀ x, x ∈ l → g_impl_ValidCone_1 x = some (P x)) : ∀ (r p : List Int), l = p ++ r →
    w_slices_IndexFunc_Sint64_int64__impl_ValidCone_1_3 (m_slices_IndexFunc_Sint64_int64__impl_ValidCone_1_3 l ((l.length : Nat) : Int) ((p.length : Nat) : Int)) = some (match r.findIdx? P with | some j => .inl (d_slices_IndexFunc_Sint64_int64__impl_ValidCone_1_3_0 (((p.length + j : Nat) : Int))) | none => .inr (.inl d_slices_IndexFunc_Sint64_int64__impl_ValidCone_1_3_1))
  | [], p, h => by
    rw [wq_slices_IndexFunc_Sint64_int64__impl_ValidCone_1_3, u_slices_IndexFunc_Sint64_int64__impl_ValidCone_1_3, lt_end h, cond_false]; rfl
  | x :: r, p, h => by
    rw [wq_slices_IndexFunc_Sint64_int64__impl_ValidCone_1_3, u_slices_IndexFunc_Sint64_int64__impl_ValidCone_1_3, lt_in h, cond_true, ix h]
    simp only [Option.bind_some]
    rw [hP x (by rw [h]; simp)]
    simp only [Option.bind_some]
    rw [List.findIdx?_cons]
    cases hx : P x
    · rw [cond_false, wr h hl]
      refine (ixf_impl_ValidCone_1_loop l hl P hP r (p ++ [x]) (nxt h)).trans ?_
      simp only [Bool.false_eq_true, if_false]
      cases hf : r.findIdx? P
      · rfl
      · simp [Nat.add_assoc, Nat.add_comm, Nat.add_left_comm]
    · rfl

theorem ixf_impl_ValidCone_1 (l : List Int) (hl : l.length ≤ 4611686018427387904) (P : Int → Bool) (hP : ∀ x, x ∈ l → g_impl_ValidCone_1 x = some (P x)) : g_slices_IndexFunc_Sint64_int64__impl_ValidCone_1 l = some (match l.findIdx? P with | some j => (j : Int) | none => -1) := by
  have h' : w_slices_IndexFunc_Sint64_int64__impl_ValidCone_1_3 (m_slices_IndexFunc_Sint64_int64__impl_ValidCone_1_3 l l.length 0) = _ := ixf_impl_ValidCone_1_loop l hl P hP l [] rfl
  rw [g_slices_IndexFunc_Sint64_int64__impl_ValidCone_1, t_slices_IndexFunc_Sint64_int64__impl_ValidCone_1, h']
  cases l.findIdx? P <;> simp [exC]

theorem has_impl_ValidCone_1 (l : List Int) (hl : l.length ≤ 4611686018427387904) (P : Int → Bool) (hP : ∀ x, x ∈ l → g_impl_ValidCone_1 x = some (P x)) : g_slices_ContainsFunc_Sint64_int64__impl_ValidCone_1 l = some (l.any P) := by
  rw [g_slices_ContainsFunc_Sint64_int64__impl_ValidCone_1, t_slices_ContainsFunc_Sint64_int64__impl_ValidCone_1, ixf_impl_ValidCone_1 l hl P hP, Option.bind_some, any_findIdx]
  cases l.findIdx? P with
  | none => rfl
  | some j => simp


theorem cone1 (x : Int) : g_impl_ValidCone_1 x = some (!inr16 x) := by
  rw [g_impl_ValidCone_1, t_impl_ValidCone_1, in_impl]; rfl

theorem impl_sum_loop (l : List Int) (hl : l.length ≤ 16) (ha : l.all inr16 = true) : ∀ (r p : List Int) (s : Int), l = p ++ r → 0 ≤ s → s ≤ 16 * p.length →
    w_impl_sumOf_4 (m_impl_sumOf_4 s l ((l.length : Nat) : Int) ((p.length : Nat) : Int)) = some (.inl (d_impl_sumOf_4_0 (s + tot r)))
  | [], p, s, h, h1, h2 => by
    rw [wq_impl_sumOf_4, u_impl_sumOf_4, lt_end h, cond_false]
    simp [tot]; rfl
  | x :: r, p, s, h, h1, h2 => by
    have hp := len_in h
    have hx := inr16_iff (List.all_eq_true.1 ha x (by rw [h]; simp))
    rw [wq_impl_sumOf_4, u_impl_sumOf_4, lt_in h, cond_true, ix h]
    simp only [Option.bind_some]
    rw [wr h (by omega), wrap_id (n := s + x) (by omega) (by omega)]
    refine (impl_sum_loop l hl ha r (p ++ [x]) (s + x) (nxt h) (by omega) (by simp; omega)).trans ?_
    simp only [tot, Int.add_assoc]

theorem impl_sum (l : List Int) (hl : l.length ≤ 16) (ha : l.all inr16 = true) : g_impl_sumOf l = some (tot l) := by
  have h' : w_impl_sumOf_4 (m_impl_sumOf_4 0 l l.length 0) = _ := impl_sum_loop l hl ha l [] 0 rfl (by omega) (by simp)
  rw [g_impl_sumOf, t_impl_sumOf, h']
  simp [exC]

theorem impl_alt_loop (l : List Int) (hl : l.length ≤ 16) (ha : l.all inr16 = true) : ∀ (r p : List Int) (s : Int), l = p ++ r → -(16 * (p.length : Int)) ≤ s → s ≤ 16 * p.length →
    w_impl_alternating_4 (m_impl_alternating_4 s l ((l.length : Nat) : Int) ((p.length : Nat) : Int)) = some (.inl (d_impl_alternating_4_0 (s + 2 * evs p.length r - tot r)))
  | [], p, s, h, h1, h2 => by
    rw [wq_impl_alternating_4, u_impl_alternating_4, lt_end h, cond_false]
    simp [tot, evs]; rfl
  | x :: r, p, s, h, h1, h2 => by
    have hp := len_in h
    have hx := inr16_iff (List.all_eq_true.1 ha x (by rw [h]; simp))
    rw [wq_impl_alternating_4, u_impl_alternating_4, lt_in h, cond_true, ix h]
    simp only [Option.bind_some]
    rw [wr h (by omega), wrap_id (n := s + x) (by omega) (by omega), wrap_id (n := s - x) (by omega) (by omega)]
    cases hc : (Int.tmod ((p.length : Nat) : Int) 2 == 0)
    · rw [cond_false]
      refine (impl_alt_loop l hl ha r (p ++ [x]) (s - x) (nxt h) (by simp; omega) (by simp; omega)).trans ?_
      simp only [tot, evs, hc, cond_false, List.length_append, List.length_singleton]
      congr 3; omega
    · rw [cond_true]
      refine (impl_alt_loop l hl ha r (p ++ [x]) (s + x) (nxt h) (by simp; omega) (by simp; omega)).trans ?_
      simp only [tot, evs, hc, cond_true, List.length_append, List.length_singleton]
      congr 3; omega

theorem impl_alt (l : List Int) (hl : l.length ≤ 16) (ha : l.all inr16 = true) : g_impl_alternating l = some (2 * evs 0 l - tot l) := by
  have h' : w_impl_alternating_4 (m_impl_alternating_4 0 l l.length 0) = _ := impl_alt_loop l hl ha l [] 0 rfl (by simp) (by simp)
  rw [g_impl_alternating, t_impl_alternating, h']
  simp [exC]

theorem impl_ok (l : List Int) (hl : l.length ≤ 1048576) : g_impl_ValidCone l = some (okC l) := by
  have hm : Int.tmod (l.length : Int) 2 = ((l.length % 2 : Nat) : Int) := by
    rw [Int.tmod_eq_emod_of_nonneg (by omega)]; omega
  have hw : ∀ a b c : Int, g_impl_within a b c = some (decide (a ≥ b) && decide (a ≤ c)) := by
    intro a b c
    unfold g_impl_within t_impl_within
    cases decide (a ≥ b) <;> rfl
  rw [g_impl_ValidCone, t_impl_ValidCone, g_impl_length_int64, t_impl_length_int64, Option.bind_some, hw, Option.bind_some, hm]
  unfold okC
  by_cases h1 : 2 ≤ l.length
  · rw [dec_t (p := ((l.length : Nat) : Int) ≥ 2) (by omega), dec_t h1]
    by_cases h2 : l.length ≤ 16
    · rw [dec_t (p := ((l.length : Nat) : Int) ≤ 16) (by omega), dec_t h2]
      simp only [Bool.and_self, Bool.not_true, cond_false, Bool.true_and]
      by_cases h3 : l.length % 2 = 0
      · rw [dec_t h3, show (((l.length % 2 : Nat) : Int) == 1) = false by simp [h3], cond_false, has_impl_ValidCone_1 l (by omega) (fun x => !inr16 x) (fun x _ => cone1 x), Option.bind_some]
        rw [show (l.any fun x => !inr16 x) = !l.all inr16 by simp [List.all_eq_not_any_not]]
        cases ha : l.all inr16
        · rfl
        · rw [impl_sum l h2 ha, impl_alt l h2 ha]
          simp only [Bool.not_true, Bool.not_false, cond_true, Option.bind_some, Bool.true_and]
          by_cases h4 : tot l ≤ 16
          · rw [dec_t h4, cond_true]
            rw [show (2 * evs 0 l - tot l == 0) = decide (2 * evs 0 l - tot l = 0) by rfl]
            congr 1
            by_cases h5 : 2 * evs 0 l = tot l
            · rw [dec_t h5, dec_t (by omega)]; rfl
            · rw [dec_f h5, dec_f (by omega)]; rfl
          · rw [dec_f h4]; rfl
      · rw [dec_f h3, show (((l.length % 2 : Nat) : Int) == 1) = true by simp; omega]
        simp
    · rw [dec_f (p := ((l.length : Nat) : Int) ≤ 16) (by omega), dec_f h2]; simp
  · rw [dec_f (p := ((l.length : Nat) : Int) ≥ 2) (by omega), dec_f h1]; simp

/-- What SectorPlaces gives. -/
def secPl (l : List Int) : List Int × Bool := cond (okC l) (plc 0 0 l, true) ([], false)

theorem secPl_length (l : List Int) : (secPl l).1.length ≤ l.length := by
  unfold secPl
  cases okC l
  · exact Nat.zero_le _
  · simp [plc_length]

theorem spec_sec (l : List Int) (hl : l.length ≤ 1048576) : g_spec_SectorPlaces l = some (secPl l) := by
  rw [g_spec_SectorPlaces, t_spec_SectorPlaces, spec_ok l hl, spec_places l hl]
  unfold secPl
  cases okC l <;> rfl
theorem impl_sec (l : List Int) (hl : l.length ≤ 1048576) : g_impl_SectorPlaces l = some (secPl l) := by
  rw [g_impl_SectorPlaces, t_impl_SectorPlaces, impl_ok l hl, impl_places l hl]
  unfold secPl
  cases okC l <;> rfl

theorem law_SectorPlaces (l : List Int) : g_laws_FnExactSectorPlaces l = some true := by
  rw [g_laws_FnExactSectorPlaces, t_laws_FnExactSectorPlaces]
  by_cases h : l.length ≤ 1048576
  · have h2 := secPl_length l
    rw [dec_f (p := ((l.length : Nat) : Int) > 1048576) (by omega)]
    simp only [cond_false, to_Int64S l h, spec_sec l h, impl_sec l h, Option.bind_some, eq_Int64S _ _ (show (secPl l).1.length ≤ 4611686018427387904 by omega), eq_Int64S _ _ (show l.length ≤ 4611686018427387904 by omega),
      mark_Int64S l h 1 (by omega) (by omega), mark_Int64S _ (show (secPl l).1.length ≤ 1048576 by omega) 1 (by omega) (by omega), held_Int64S _ 1 (show (secPl l).1.length ≤ 1048576 by omega) (by omega) (by omega),
      decide_true, Bool.not_true, cond_true, beq_self_eq_true, bne_self_eq_false]
    rw [dec_f (show ¬ (1 + (l.length : Int) < 0) by omega), dec_f (show ¬ (1 + ((secPl l).1.length : Int) < 0) by omega)]
    rfl
  · rw [dec_t (p := ((l.length : Nat) : Int) > 1048576) (by omega)]; rfl

end Go.Proofs.Ytnpejkbnepncfaa
