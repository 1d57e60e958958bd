/- Lists of numbers, valid cones and their places. No conditions. -/
import Derived.Test.YtjfgddmngnkfdaaKO2
import Derived.Test.YtjfgddmngnkfdaaPK
namespace Go.Proofs.Ytjfgddmngnkfdaa
open Go.Vai

/-! toInt64S -/
theorem to_Int64S_loop (l : List Int) (hl : l.length ≤ 4611686018427387904) : ∀ (r p q s : List Int), l = p ++ r → q.length = p.length → s.length = r.length →
    w_laws_toInt64S_4 (m_laws_toInt64S_4 l (q ++ s) ((p.length : Nat) : Int)) = some (.inl (((q ++ r, ()), ()), (), ()))
  | [], p, q, s, h, hq, hs => by
    rw [wq_laws_toInt64S_4, u_laws_toInt64S_4, lt_end h, cond_false]
    rw [List.length_eq_zero_iff.1 hs]; rfl
  | x :: r, p, q, [], h, hq, hs => by cases hs
  | x :: r, p, q, y :: s, h, hq, hs => by
    rw [wq_laws_toInt64S_4, u_laws_toInt64S_4, lt_in h, cond_true, ix h, ← hq, ix (rfl : q ++ y :: s = q ++ y :: s)]
    simp only [Option.bind_some]
    rw [set_mid rfl, hq, wr h hl]
    have := to_Int64S_loop l hl r (p ++ [x]) (q ++ [x]) s (nxt h) (by simp [hq]) (by simpa using hs)
    simpa using this

theorem to_Int64S (l : List Int) (hl : l.length ≤ 1048576) : g_laws_toInt64S l = some l := by
  have h := to_Int64S_loop l (by omega) l [] [] (List.replicate l.length 0) rfl rfl (by simp)
  rw [g_laws_toInt64S, t_laws_toInt64S, dec_t (by omega), dec_t (by omega), dec_t (by omega)]
  simp only [cond_true]
  rw [Int.toNat_natCast]
  have h' : w_laws_toInt64S_4 (((l, ()), (List.replicate l.length (0 : Int), ()), ((0 : Int), ()), ()), (), ()) = some (.inl (((l, ()), ()), (), ())) := h
  rw [h']; rfl

/-! eqInt64S -/
theorem eq_Int64S_loop (a b : List Int) (hl : a.length ≤ 4611686018427387904) : ∀ (r p q s : List Int), a = p ++ r → b = q ++ s → q.length = p.length → s.length = r.length →
    w_laws_eqInt64S_5 (m_laws_eqInt64S_5 a b ((p.length : Nat) : Int)) = some (if r = s then .inr (.inl ((((), ()), ()), (), ())) else .inl (((false, ()), ()), (), ()))
  | [], p, q, s, h, h', hq, hs => by
    rw [wq_laws_eqInt64S_5, u_laws_eqInt64S_5, lt_end h, cond_false]
    rw [List.length_eq_zero_iff.1 hs]; rfl
  | x :: r, p, q, [], h, h', hq, hs => by cases hs
  | x :: r, p, q, y :: s, h, h', hq, hs => by
    rw [wq_laws_eqInt64S_5, u_laws_eqInt64S_5, lt_in h, cond_true, ix h, ← hq, ix h']
    simp only [Option.bind_some]
    by_cases hxy : x = y
    · rw [show (x != y) = false by simp [hxy], cond_false, hq, wr h hl]
      have := eq_Int64S_loop a b hl r (p ++ [x]) (q ++ [y]) s (nxt h) (nxt h') (by simp [hq]) (by simpa using hs)
      refine this.trans ?_
      by_cases e : r = s
      · rw [if_pos e, if_pos (by rw [hxy, e])]
      · rw [if_neg e, if_neg (fun e' => e (List.cons.inj e').2)]
    · rw [show (x != y) = true by simp [hxy], cond_true]
      refine Eq.trans ?_ (congrArg some (if_neg (fun e' => hxy (List.cons.inj e').1)).symm)
      rfl

theorem eq_Int64S (a b : List Int) (hl : a.length ≤ 4611686018427387904) : g_laws_eqInt64S a b = some (decide (a = b)) := by
  rw [g_laws_eqInt64S, t_laws_eqInt64S]
  by_cases h : a.length = b.length
  · rw [show (((a.length : Nat) : Int) != ((b.length : Nat) : Int)) = false by simp [h], cond_false]
    have h' : w_laws_eqInt64S_5 (((a, ()), (b, ()), ((0 : Int), ()), ()), (), ()) = _ := eq_Int64S_loop a b hl a [] [] b rfl rfl rfl h.symm
    rw [h']
    by_cases e : a = b
    · rw [if_pos e, decide_eq_true e]; rfl
    · rw [if_neg e, decide_eq_false e]; rfl
  · rw [show (((a.length : Nat) : Int) != ((b.length : Nat) : Int)) = true by simp; omega, cond_true, decide_eq_false (fun e => h (by rw [e]))]


/-- Places, from a place and an index on. -/
def plc : Nat → Int → List Int → List Int
  | _, _, [] => []
  | i, a, x :: r => a :: plc (i + 1) (cond ((Int.tmod (i : Int) 2) == 0) (IntKind.wrap .i64 (a + x)) (IntKind.wrap .i64 (a - x))) r

theorem plc_length : ∀ (l : List Int) i a, (plc i a l).length = l.length
  | [], _, _ => rfl
  | x :: r, i, a => by simp [plc, plc_length r]

theorem spec_places_loop (l : List Int) (hl : l.length ≤ 1048576) : ∀ (r p o : List Int) (a : Int), l = p ++ r → o.length = p.length →
    w_spec_l11Places_5 (m_spec_l11Places_5 l o a ((p.length : Nat) : Int)) = some (.inl (d_spec_l11Places_5_0 (o ++ plc p.length a r)))
  | [], p, o, a, h, ho => by
    rw [wq_spec_l11Places_5, u_spec_l11Places_5, lt_end h, cond_false]
    simp [plc]; rfl
  | x :: r, p, o, a, h, ho => by
    have hp := len_in h
    have IH := fun a' => spec_places_loop l hl r (p ++ [x]) (o ++ [a]) a' (nxt h) (by simp [ho])
    rw [wq_spec_l11Places_5, u_spec_l11Places_5, lt_in h, cond_true, dec_t (by simp [ho]; omega), cond_true, dec_t (by simp [ho]; omega), cond_true, ix h]
    simp only [Option.bind_some]
    rw [wr h (by omega)]
    simp only [plc]
    rw [show (2 : Int) = 2 from rfl]
    cases hc : (Int.tmod ((p.length : Nat) : Int) 2 == 0)
    · simp only [cond_false]
      refine (IH _).trans ?_
      simp
    · simp only [cond_true]
      refine (IH _).trans ?_
      simp

theorem spec_places (l : List Int) (hl : l.length ≤ 1048576) : g_spec_l11Places l = some (plc 0 0 l) := by
  have h' : w_spec_l11Places_5 (m_spec_l11Places_5 l [] 0 0) = _ := spec_places_loop l hl l [] [] 0 rfl rfl
  rw [g_spec_l11Places, t_spec_l11Places, h']; rfl

theorem impl_places_loop (l : List Int) (hl : l.length ≤ 1048576) : ∀ (r p o : List Int) (a : Int), l = p ++ r → o.length = p.length →
    w_impl_places_5 (m_impl_places_5 o a l ((l.length : Nat) : Int) ((p.length : Nat) : Int)) = some (.inl (d_impl_places_5_0 (o ++ plc p.length a r)))
  | [], p, o, a, h, ho => by
    rw [wq_impl_places_5, u_impl_places_5, lt_end h, cond_false]
    simp [plc]; rfl
  | x :: r, p, o, a, h, ho => by
    have hp := len_in h
    have IH := fun a' => impl_places_loop l hl r (p ++ [x]) (o ++ [a]) a' (nxt h) (by simp [ho])
    rw [wq_impl_places_5, u_impl_places_5, lt_in h, cond_true, ix h]
    simp only [Option.bind_some]
    rw [dec_t (by simp [ho]; omega), cond_true, dec_t (by simp [ho]; omega), cond_true, wr h (by omega)]
    simp only [plc]
    cases hc : (Int.tmod ((p.length : Nat) : Int) 2 == 0)
    · simp only [cond_false]
      refine (IH _).trans ?_
      simp
    · simp only [cond_true]
      refine (IH _).trans ?_
      simp

theorem impl_places (l : List Int) (hl : l.length ≤ 1048576) : g_impl_places l = some (plc 0 0 l) := by
  have h' : w_impl_places_5 (m_impl_places_5 [] 0 l l.length 0) = _ := impl_places_loop l hl l [] [] 0 rfl rfl
  rw [g_impl_places, t_impl_places, h']; rfl

/-! validity -/
def inr16 (x : Int) : Bool := cond (decide (x ≥ 1)) (decide (x ≤ 16)) false
theorem in_spec (x : Int) : g_spec_l00In x 1 16 = some (inr16 x) := by
  unfold g_spec_l00In t_spec_l00In inr16
  cases decide (x ≥ 1) <;> simp
theorem in_impl (x : Int) : g_impl_within x 1 16 = some (inr16 x) := by
  unfold g_impl_within t_impl_within inr16
  cases decide (x ≥ 1) <;> simp

/-- The sum at even places. -/
def evs : Nat → List Int → Int
  | _, [] => 0
  | i, x :: r => cond ((Int.tmod (i : Int) 2) == 0) x 0 + evs (i + 1) r
def tot : List Int → Int
  | [] => 0
  | x :: r => x + tot r

theorem bnds : ∀ (l : List Int) (i : Nat), l.all inr16 = true → 0 ≤ evs i l ∧ evs i l ≤ 16 * l.length ∧ 0 ≤ tot l ∧ tot l ≤ 16 * l.length
  | [], i, h => by simp [evs, tot]
  | x :: r, i, h => by
    simp only [List.all_cons, Bool.and_eq_true] at h
    have := bnds r (i + 1) h.2
    have hx : 1 ≤ x ∧ x ≤ 16 := by
      have := h.1
      unfold inr16 at this
      simp at this
      omega
    simp only [evs, tot, List.length_cons]
    cases (Int.tmod (i : Int) 2 == 0) <;> simp only [cond_true, cond_false] <;> omega

theorem inr16_iff {x : Int} (h : inr16 x = true) : 1 ≤ x ∧ x ≤ 16 := by
  unfold inr16 at h
  simp at h
  omega

theorem spec_ok_loop (l : List Int) (hl : l.length ≤ 16) : ∀ (r p : List Int) (s o : Int), l = p ++ r → 0 ≤ s → s ≤ 16 * p.length → 0 ≤ o → o ≤ 16 * p.length →
    ∃ s' o', w_spec_l11Ok_7 (m_spec_l11Ok_7 l s o ((p.length : Nat) : Int)) = some (cond (r.all inr16) (.inr (.inl (d_spec_l11Ok_7_1 (s + tot r) (o + evs p.length r)))) (.inl (d_spec_l11Ok_7_0 false s' o')))
  | [], p, s, o, h, h1, h2, h3, h4 => ⟨0, 0, by
    rw [wq_spec_l11Ok_7, u_spec_l11Ok_7, lt_end h, cond_false]
    simp [tot, evs]; rfl⟩
  | x :: r, p, s, o, h, h1, h2, h3, h4 => by
    have hp := len_in h
    rw [wq_spec_l11Ok_7, u_spec_l11Ok_7, lt_in h, cond_true, ix h]
    simp only [Option.bind_some, in_spec, List.all_cons]
    cases hx : inr16 x
    · exact ⟨s, o, rfl⟩
    · have hx' := inr16_iff hx
      simp only [Bool.not_true, cond_false, Bool.true_and]
      rw [wr h (by omega), wrap_id (n := s + x) (by omega) (by omega), wrap_id (n := o + x) (by omega) (by omega)]
      cases hc : (Int.tmod ((p.length : Nat) : Int) 2 == 0)
      · simp only [cond_false]
        obtain ⟨s', o', IH⟩ := spec_ok_loop l hl r (p ++ [x]) (s + x) o (nxt h) (by omega) (by simp; omega) (by omega) (by simp; omega)
        refine ⟨s', o', IH.trans ?_⟩
        simp only [tot, evs, hc, cond_false, List.length_append, List.length_singleton, Int.add_assoc, Int.zero_add]
      · simp only [cond_true]
        obtain ⟨s', o', IH⟩ := spec_ok_loop l hl r (p ++ [x]) (s + x) (o + x) (nxt h) (by omega) (by simp; omega) (by omega) (by simp; omega)
        refine ⟨s', o', IH.trans ?_⟩
        simp only [tot, evs, hc, cond_true, List.length_append, List.length_singleton, Int.add_assoc]

/-- A cone is valid. -/
def okC (l : List Int) : Bool :=
  decide (2 ≤ l.length) && decide (l.length ≤ 16) && decide (l.length % 2 = 0) && l.all inr16 && decide (tot l ≤ 16) && decide (2 * evs 0 l = tot l)

theorem spec_ok (l : List Int) (hl : l.length ≤ 1048576) : g_spec_l11Ok l = some (okC l) := by
  have hm : Int.tmod (l.length : Int) 2 = ((l.length % 2 : Nat) : Int) := by
    rw [Int.tmod_eq_emod_of_nonneg (by omega)]; omega
  rw [g_spec_l11Ok, t_spec_l11Ok, hm]
  unfold okC
  by_cases h1 : 2 ≤ l.length
  · rw [dec_f (p := ((l.length : Nat) : Int) < 2) (by omega), cond_false, dec_t h1]
    by_cases h2 : l.length ≤ 16
    · rw [dec_f (p := ((l.length : Nat) : Int) > 16) (by omega), dec_t h2]
      simp only [cond_false]
      by_cases h3 : l.length % 2 = 0
      · rw [dec_t h3, show (((l.length % 2 : Nat) : Int) != 0) = false by simp [h3], cond_false]
        obtain ⟨s', o', hw⟩ := spec_ok_loop l h2 l [] 0 0 rfl (by omega) (by simp) (by omega) (by simp)
        have hw' : w_spec_l11Ok_7 (m_spec_l11Ok_7 l 0 0 0) = _ := hw
        rw [hw']
        cases ha : l.all inr16
        · rfl
        · have hb := bnds l 0 ha
          simp only [cond_true, Option.bind_some, Bool.and_self, Bool.true_and, exC, Int.zero_add, List.length_nil]
          rw [wrap_id (n := 2 * evs 0 l) (by omega) (by omega)]
          by_cases h4 : tot l ≤ 16
          · rw [dec_t h4]
            rw [show (2 * evs 0 l == tot l) = decide (2 * evs 0 l = tot l) by rfl]
            simp
          · rw [dec_f h4]; rfl
      · rw [dec_f h3, show (((l.length % 2 : Nat) : Int) != 0) = true by simp; omega]
        simp
    · rw [dec_t (p := ((l.length : Nat) : Int) > 16) (by omega), dec_f h2]; simp
  · rw [dec_t (p := ((l.length : Nat) : Int) < 2) (by omega), dec_f h1]; simp

theorem ixf_impl_ValidCone_1_loop (l : List Int) (hl : l.length ≤ 4611686018427387904) (P : Int → Bool) (hP : ∀ x, x ∈ l → g_impl_ValidCone_1 x = some (P x)) : ∀ (r p : List Int), l = p ++ r →
    w_slices_IndexFunc_Sint64_int64__impl_ValidCone_1_3 (m_slices_IndexFunc_Sint64_int64__impl_ValidCone_1_3 l ((l.length : Nat) : Int) ((p.length : Nat) : Int)) = some (match r.findIdx? P with | some j => .inl (d_slices_IndexFunc_Sint64_int64__impl_ValidCone_1_3_0 (((p.length + j : Nat) : Int))) | none => .inr (.inl d_slices_IndexFunc_Sint64_int64__impl_ValidCone_1_3_1))
  | [], p, h => by
    rw [wq_slices_IndexFunc_Sint64_int64__impl_ValidCone_1_3, u_slices_IndexFunc_Sint64_int64__impl_ValidCone_1_3, lt_end h, cond_false]; rfl
  | x :: r, p, h => by
    rw [wq_slices_IndexFunc_Sint64_int64__impl_ValidCone_1_3, u_slices_IndexFunc_Sint64_int64__impl_ValidCone_1_3, lt_in h, cond_true, ix h]
    simp only [Option.bind_some]
    rw [hP x (by rw [h]; simp)]
    simp only [Option.bind_some]
    rw [List.findIdx?_cons]
    cases hx : P x
    · rw [cond_false, wr h hl]
      refine (ixf_impl_ValidCone_1_loop l hl P hP r (p ++ [x]) (nxt h)).trans ?_
      simp only [Bool.false_eq_true, if_false]
      cases hf : r.findIdx? P
      · rfl
      · simp [Nat.add_comm, Nat.add_left_comm]
    · rfl

theorem ixf_impl_ValidCone_1 (l : List Int) (hl : l.length ≤ 4611686018427387904) (P : Int → Bool) (hP : ∀ x, x ∈ l → g_impl_ValidCone_1 x = some (P x)) : g_slices_IndexFunc_Sint64_int64__impl_ValidCone_1 l = some (match l.findIdx? P with | some j => (j : Int) | none => -1) := by
  have h' : w_slices_IndexFunc_Sint64_int64__impl_ValidCone_1_3 (m_slices_IndexFunc_Sint64_int64__impl_ValidCone_1_3 l l.length 0) = _ := ixf_impl_ValidCone_1_loop l hl P hP l [] rfl
  rw [g_slices_IndexFunc_Sint64_int64__impl_ValidCone_1, t_slices_IndexFunc_Sint64_int64__impl_ValidCone_1, h']
  cases l.findIdx? P <;> simp [exC]

theorem has_impl_ValidCone_1 (l : List Int) (hl : l.length ≤ 4611686018427387904) (P : Int → Bool) (hP : ∀ x, x ∈ l → g_impl_ValidCone_1 x = some (P x)) : g_slices_ContainsFunc_Sint64_int64__impl_ValidCone_1 l = some (l.any P) := by
  rw [g_slices_ContainsFunc_Sint64_int64__impl_ValidCone_1, t_slices_ContainsFunc_Sint64_int64__impl_ValidCone_1, ixf_impl_ValidCone_1 l hl P hP, Option.bind_some, any_findIdx]
  cases l.findIdx? P with
  | none => rfl
  | some j => simp


theorem cone1 (x : Int) : g_impl_ValidCone_1 x = some (!inr16 x) := by
  rw [g_impl_ValidCone_1, t_impl_ValidCone_1, in_impl]; rfl

theorem impl_sum_loop (l : List Int) (hl : l.length ≤ 16) (ha : l.all inr16 = true) : ∀ (r p : List Int) (s : Int), l = p ++ r → 0 ≤ s → s ≤ 16 * p.length →
    w_impl_sumOf_4 (m_impl_sumOf_4 s l ((l.length : Nat) : Int) ((p.length : Nat) : Int)) = some (.inl (d_impl_sumOf_4_0 (s + tot r)))
  | [], p, s, h, h1, h2 => by
    rw [wq_impl_sumOf_4, u_impl_sumOf_4, lt_end h, cond_false]
    simp [tot]; rfl
  | x :: r, p, s, h, h1, h2 => by
    have hp := len_in h
    have hx := inr16_iff (List.all_eq_true.1 ha x (by rw [h]; simp))
    rw [wq_impl_sumOf_4, u_impl_sumOf_4, lt_in h, cond_true, ix h]
    simp only [Option.bind_some]
    rw [wr h (by omega), wrap_id (n := s + x) (by omega) (by omega)]
    refine (impl_sum_loop l hl ha r (p ++ [x]) (s + x) (nxt h) (by omega) (by simp; omega)).trans ?_
    simp only [tot, Int.add_assoc]

theorem impl_sum (l : List Int) (hl : l.length ≤ 16) (ha : l.all inr16 = true) : g_impl_sumOf l = some (tot l) := by
  have h' : w_impl_sumOf_4 (m_impl_sumOf_4 0 l l.length 0) = _ := impl_sum_loop l hl ha l [] 0 rfl (by omega) (by simp)
  rw [g_impl_sumOf, t_impl_sumOf, h']
  simp [exC]

theorem impl_alt_loop (l : List Int) (hl : l.length ≤ 16) (ha : l.all inr16 = true) : ∀ (r p : List Int) (s : Int), l = p ++ r → -(16 * (p.length : Int)) ≤ s → s ≤ 16 * p.length →
    w_impl_alternating_4 (m_impl_alternating_4 s l ((l.length : Nat) : Int) ((p.length : Nat) : Int)) = some (.inl (d_impl_alternating_4_0 (s + 2 * evs p.length r - tot r)))
  | [], p, s, h, h1, h2 => by
    rw [wq_impl_alternating_4, u_impl_alternating_4, lt_end h, cond_false]
    simp [tot, evs]; rfl
  | x :: r, p, s, h, h1, h2 => by
    have hp := len_in h
    have hx := inr16_iff (List.all_eq_true.1 ha x (by rw [h]; simp))
    rw [wq_impl_alternating_4, u_impl_alternating_4, lt_in h, cond_true, ix h]
    simp only [Option.bind_some]
    rw [wr h (by omega), wrap_id (n := s + x) (by omega) (by omega), wrap_id (n := s - x) (by omega) (by omega)]
    cases hc : (Int.tmod ((p.length : Nat) : Int) 2 == 0)
    · rw [cond_false]
      refine (impl_alt_loop l hl ha r (p ++ [x]) (s - x) (nxt h) (by simp; omega) (by simp; omega)).trans ?_
      simp only [tot, evs, hc, cond_false, List.length_append, List.length_singleton]
      congr 3; omega
    · rw [cond_true]
      refine (impl_alt_loop l hl ha r (p ++ [x]) (s + x) (nxt h) (by simp; omega) (by simp; omega)).trans ?_
      simp only [tot, evs, hc, cond_true, List.length_append, List.length_singleton]
      congr 3; omega

theorem impl_alt (l : List Int) (hl : l.length ≤ 16) (ha : l.all inr16 = true) : g_impl_alternating l = some (2 * evs 0 l - tot l) := by
  have h' : w_impl_alternating_4 (m_impl_alternating_4 0 l l.length 0) = _ := impl_alt_loop l hl ha l [] 0 rfl (by simp) (by simp)
  rw [g_impl_alternating, t_impl_alternating, h']
  simp [exC]

theorem impl_ok (l : List Int) (hl : l.length ≤ 1048576) : g_impl_ValidCone l = some (okC l) := by
  have hm : Int.tmod (l.length : Int) 2 = ((l.length % 2 : Nat) : Int) := by
    rw [Int.tmod_eq_emod_of_nonneg (by omega)]; omega
  have hw : ∀ a b c : Int, g_impl_within a b c = some (decide (a ≥ b) && decide (a ≤ c)) := by
    intro a b c
    unfold g_impl_within t_impl_within
    cases decide (a ≥ b) <;> rfl
  rw [g_impl_ValidCone, t_impl_ValidCone, g_impl_length_int64, t_impl_length_int64, Option.bind_some, hw, Option.bind_some, hm]
  unfold okC
  by_cases h1 : 2 ≤ l.length
  · rw [dec_t (p := ((l.length : Nat) : Int) ≥ 2) (by omega), dec_t h1]
    by_cases h2 : l.length ≤ 16
    · rw [dec_t (p := ((l.length : Nat) : Int) ≤ 16) (by omega), dec_t h2]
      simp only [Bool.and_self, Bool.not_true, cond_false, Bool.true_and]
      by_cases h3 : l.length % 2 = 0
      · rw [dec_t h3, show (((l.length % 2 : Nat) : Int) == 1) = false by simp [h3], cond_false, has_impl_ValidCone_1 l (by omega) (fun x => !inr16 x) (fun x _ => cone1 x), Option.bind_some]
        rw [show (l.any fun x => !inr16 x) = !l.all inr16 by simp [List.all_eq_not_any_not]]
        cases ha : l.all inr16
        · rfl
        · rw [impl_sum l h2 ha, impl_alt l h2 ha]
          simp only [Bool.not_true, Bool.not_false, cond_true, Option.bind_some, Bool.true_and]
          by_cases h4 : tot l ≤ 16
          · rw [dec_t h4, cond_true]
            rw [show (2 * evs 0 l - tot l == 0) = decide (2 * evs 0 l - tot l = 0) by rfl]
            congr 1
            by_cases h5 : 2 * evs 0 l = tot l
            · rw [dec_t h5, dec_t (by omega)]; rfl
            · rw [dec_f h5, dec_f (by omega)]; rfl
          · rw [dec_f h4]; rfl
      · rw [dec_f h3, show (((l.length % 2 : Nat) : Int) == 1) = true by simp; omega]
        simp
    · rw [dec_f (p := ((l.length : Nat) : Int) ≤ 16) (by omega), dec_f h2]; simp
  · rw [dec_f (p := ((l.length : Nat) : Int) ≥ 2) (by omega), dec_f h1]; simp

end Go.Proofs.Ytjfgddmngnkfdaa
