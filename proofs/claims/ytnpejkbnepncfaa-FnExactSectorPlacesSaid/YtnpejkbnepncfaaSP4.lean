/- The plain law on SectorPlaces: what the law computes is true. No conditions. -/
import Derived.Test.YtnpejkbnepncfaaSP3
namespace Go.Proofs.Ytnpejkbnepncfaa
open Go.Vai

/-- Places, from a place and an index on. -/
def plc : Nat → Int → List Int → List Int
  | _, _, [] => []
  | i, a, x :: r => a :: plc (i + 1) (cond ((Int.tmod (i : Int) 2) == 0) (IntKind.wrap .i64 (a + x)) (IntKind.wrap .i64 (a - x))) r

theorem plc_length : ∀ (l : List Int) i a, (plc i a l).length = l.length
  | [], _, _ => rfl
  | x :: r, i, a => by simp [plc, plc_length r]

theorem spec_places_loop (l : List Int) (hl : l.length ≤ 1048576) : ∀ (r p o : List Int) (a : Int), l = p ++ r → o.length = p.length →
    w_spec_l11Places_5 (m_spec_l11Places_5 l o a ((p.length : Nat) : Int)) = some (.inl (d_spec_l11Places_5_0 (o ++ plc p.length a r)))
  | [], p, o, a, h, ho => by
    rw [wq_spec_l11Places_5, u_spec_l11Places_5, lt_end h, cond_false]
    simp [plc]; rfl
  | x :: r, p, o, a, h, ho => by
    have hp := len_in h
    have IH := fun a' => spec_places_loop l hl r (p ++ [x]) (o ++ [a]) a' (nxt h) (by simp [ho])
    rw [wq_spec_l11Places_5, u_spec_l11Places_5, lt_in h, cond_true, dec_t (by simp [ho]; omega), cond_true, dec_t (by simp [ho]; omega), cond_true, ix h]
    simp only [Option.bind_some]
    rw [wr h (by omega)]
    simp only [plc]
    rw [show (2 : Int) = 2 from rfl]
    cases hc : (Int.tmod ((p.length : Nat) : Int) 2 == 0)
    · simp only [cond_false]
      refine (IH _).trans ?_
      simp
    · simp only [cond_true]
      refine (IH _).trans ?_
      simp

theorem spec_places (l : List Int) (hl : l.length ≤ 1048576) : g_spec_l11Places l = some (plc 0 0 l) := by
  have h' : w_spec_l11Places_5 (m_spec_l11Places_5 l [] 0 0) = _ := spec_places_loop l hl l [] [] 0 rfl rfl
  rw [g_spec_l11Places, t_spec_l11Places, h']; rfl

theorem impl_places_loop (l : List Int) (hl : l.length ≤ 1048576) : ∀ (r p o : List Int) (a : Int), l = p ++ r → o.length = p.length →
    w_impl_places_5 (m_impl_places_5 o a l ((l.length : Nat) : Int) ((p.length : Nat) : Int)) = some (.inl (d_impl_places_5_0 (o ++ plc p.length a r)))
  | [], p, o, a, h, ho => by
    rw [wq_impl_places_5, u_impl_places_5, lt_end h, cond_false]
    simp [plc]; rfl
  | x :: r, p, o, a, h, ho => by
    have hp := len_in h
    have IH := fun a' => impl_places_loop l hl r (p ++ [x]) (o ++ [a]) a' (nxt h) (by simp [ho])
    rw [wq_impl_places_5, u_impl_places_5, lt_in h, cond_true, ix h]
    simp only [Option.bind_some]
    rw [dec_t (by simp [ho]; omega), cond_true, dec_t (by simp [ho]; omega), cond_true, wr h (by omega)]
    simp only [plc]
    cases hc : (Int.tmod ((p.length : Nat) : Int) 2 == 0)
    · simp only [cond_false]
      refine (IH _).trans ?_
      simp
    · simp only [cond_true]
      refine (IH _).trans ?_
      simp

theorem impl_places (l : List Int) (hl : l.length ≤ 1048576) : g_impl_places l = some (plc 0 0 l) := by
  have h' : w_impl_places_5 (m_impl_places_5 [] 0 l l.length 0) = _ := impl_places_loop l hl l [] [] 0 rfl rfl
  rw [g_impl_places, t_impl_places, h']; rfl

/-! validity -/
def inr16 (x : Int) : Bool := cond (decide (x ≥ 1)) (decide (x ≤ 16)) false
theorem in_spec (x : Int) : g_spec_l00In x 1 16 = some (inr16 x) := by
  unfold g_spec_l00In t_spec_l00In inr16
  cases decide (x ≥ 1) <;> simp
theorem in_impl (x : Int) : g_impl_within x 1 16 = some (inr16 x) := by
  unfold g_impl_within t_impl_within inr16
  cases decide (x ≥ 1) <;> simp

/-- The sum at even places. -/
def evs : Nat → List Int → Int
  | _, [] => 0
  | i, x :: r => cond ((Int.tmod (i : Int) 2) == 0) x 0 + evs (i + 1) r
def tot : List Int → Int
  | [] => 0
  | x :: r => x + tot r

theorem bnds : ∀ (l : List Int) (i : Nat), l.all inr16 = true → 0 ≤ evs i l ∧ evs i l ≤ 16 * l.length ∧ 0 ≤ tot l ∧ tot l ≤ 16 * l.length
  | [], i, h => by simp [evs, tot]
  | x :: r, i, h => by
    simp only [List.all_cons, Bool.and_eq_true] at h
    have := bnds r (i + 1) h.2
    have hx : 1 ≤ x ∧ x ≤ 16 := by
      have := h.1
      unfold inr16 at this
      simp at this
      omega
    simp only [evs, tot, List.length_cons]
    cases (Int.tmod (i : Int) 2 == 0) <;> simp only [cond_true, cond_false] <;> omega

theorem inr16_iff {x : Int} (h : inr16 x = true) : 1 ≤ x ∧ x ≤ 16 := by
  unfold inr16 at h
  simp at h
  omega

theorem spec_ok_loop (l : List Int) (hl : l.length ≤ 16) : ∀ (r p : List Int) (s o : Int), l = p ++ r → 0 ≤ s → s ≤ 16 * p.length → 0 ≤ o → o ≤ 16 * p.length →
    ∃ s' o', w_spec_l11Ok_7 (m_spec_l11Ok_7 l s o ((p.length : Nat) : Int)) = some (cond (r.all inr16) (.inr (.inl (d_spec_l11Ok_7_1 (s + tot r) (o + evs p.length r)))) (.inl (d_spec_l11Ok_7_0 false s' o')))
  | [], p, s, o, h, h1, h2, h3, h4 => ⟨0, 0, by
    rw [wq_spec_l11Ok_7, u_spec_l11Ok_7, lt_end h, cond_false]
    simp [tot, evs]; rfl⟩
  | x :: r, p, s, o, h, h1, h2, h3, h4 => by
    have hp := len_in h
    rw [wq_spec_l11Ok_7, u_spec_l11Ok_7, lt_in h, cond_true, ix h]
    simp only [Option.bind_some, in_spec, List.all_cons]
    cases hx : inr16 x
    · exact ⟨s, o, rfl⟩
    · have hx' := inr16_iff hx
      simp only [Bool.not_true, cond_false, Bool.true_and]
      rw [wr h (by omega), wrap_id (n := s + x) (by omega) (by omega), wrap_id (n := o + x) (by omega) (by omega)]
      cases hc : (Int.tmod ((p.length : Nat) : Int) 2 == 0)
      · simp only [cond_false]
        obtain ⟨s', o', IH⟩ := spec_ok_loop l hl r (p ++ [x]) (s + x) o (nxt h) (by omega) (by simp; omega) (by omega) (by simp; omega)
        refine ⟨s', o', IH.trans ?_⟩
        simp only [tot, evs, hc, cond_false, List.length_append, List.length_singleton, Int.add_assoc, Int.zero_add]
      · simp only [cond_true]
        obtain ⟨s', o', IH⟩ := spec_ok_loop l hl r (p ++ [x]) (s + x) (o + x) (nxt h) (by omega) (by simp; omega) (by omega) (by simp; omega)
        refine ⟨s', o', IH.trans ?_⟩
        simp only [tot, evs, hc, cond_true, List.length_append, List.length_singleton, Int.add_assoc]

/-- A cone is valid. -/
def okC (l : List Int) : Bool :=
  decide (2 ≤ l.length) && decide (l.length ≤ 16) && decide (l.length % 2 = 0) && l.all inr16 && decide (tot l ≤ 16) && decide (2 * evs 0 l = tot l)

theorem spec_ok (l : List Int) (hl : l.length ≤ 1048576) : g_spec_l11Ok l = some (okC l) := by
  have hm : Int.tmod (l.length : Int) 2 = ((l.length % 2 : Nat) : Int) := by
    rw [Int.tmod_eq_emod_of_nonneg (by omega)]; omega
  rw [g_spec_l11Ok, t_spec_l11Ok, hm]
  unfold okC
  by_cases h1 : 2 ≤ l.length
  · rw [dec_f (p := ((l.length : Nat) : Int) < 2) (by omega), cond_false, dec_t h1]
    by_cases h2 : l.length ≤ 16
    · rw [dec_f (p := ((l.length : Nat) : Int) > 16) (by omega), dec_t h2]
      simp only [cond_false]
      by_cases h3 : l.length % 2 = 0
      · rw [dec_t h3, show (((l.length % 2 : Nat) : Int) != 0) = false by simp [h3], cond_false]
        obtain ⟨s', o', hw⟩ := spec_ok_loop l h2 l [] 0 0 rfl (by omega) (by simp) (by omega) (by simp)
        have hw' : w_spec_l11Ok_7 (m_spec_l11Ok_7 l 0 0 0) = _ := hw
        rw [hw']
        cases ha : l.all inr16
        · rfl
        · have hb := bnds l 0 ha
          simp only [cond_true, Option.bind_some, Bool.and_self, Bool.true_and, exC, Int.zero_add, List.length_nil]
          rw [wrap_id (n := 2 * evs 0 l) (by omega) (by omega)]
          by_cases h4 : tot l ≤ 16
          · rw [dec_t h4]
            rw [show (2 * evs 0 l == tot l) = decide (2 * evs 0 l = tot l) by rfl]
            simp
          · rw [dec_f h4]; rfl
      · rw [dec_f h3, show (((l.length % 2 : Nat) : Int) != 0) = true by simp; omega]
        simp
    · rw [dec_t (p := ((l.length : Nat) : Int) > 16) (by omega), dec_f h2]; simp
  · rw [dec_t (p := ((l.length : Nat) : Int) < 2) (by omega), dec_f h1]; simp

end Go.Proofs.Ytnpejkbnepncfaa
