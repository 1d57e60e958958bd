/- Strips. No conditions. -/
import Derived.Test.YtjfgddmngnkfdaaDoorPK
import Derived.Test.YtjfgddmngnkfdaaDoorRS2
namespace Go.Proofs.YtjfgddmngnkfdaaDoor
open Go.Vai
/-! toInt64S -/
theorem eq_Int64S_loop (a b : List Int) (hl : a.length ≤ 4611686018427387904) : ∀ (r p q s : List Int), a = p ++ r → b = q ++ s → q.length = p.length → s.length = r.length →
    w_laws_eqInt64S_5 (m_laws_eqInt64S_5 a b ((p.length : Nat) : Int)) = some (if r = s then .inr (.inl ((((), ()), ()), (), ())) else .inl (((false, ()), ()), (), ()))
  | [], p, q, s, h, h', hq, hs => by
    rw [wq_laws_eqInt64S_5, u_laws_eqInt64S_5, lt_end h, cond_false]
    rw [List.length_eq_zero_iff.1 hs]; rfl
  | x :: r, p, q, [], h, h', hq, hs => by cases hs
  | x :: r, p, q, y :: s, h, h', hq, hs => by
    rw [wq_laws_eqInt64S_5, u_laws_eqInt64S_5, lt_in h, cond_true, ix h, ← hq, ix h']
    simp only [Option.bind_some]
    by_cases hxy : x = y
    · rw [show (x != y) = false by simp [hxy], cond_false, hq, wr h hl]
      have := eq_Int64S_loop a b hl r (p ++ [x]) (q ++ [y]) s (nxt h) (nxt h') (by simp [hq]) (by simpa using hs)
      refine this.trans ?_
      by_cases e : r = s
      · rw [if_pos e, if_pos (by rw [hxy, e])]
      · rw [if_neg e, if_neg (fun e' => e (List.cons.inj e').2)]
    · rw [show (x != y) = true by simp [hxy], cond_true]
      refine Eq.trans ?_ (congrArg some (if_neg (fun e' => hxy (List.cons.inj e').1)).symm)
      rfl

theorem eq_Int64S (a b : List Int) (hl : a.length ≤ 4611686018427387904) : g_laws_eqInt64S a b = some (decide (a = b)) := by
  rw [g_laws_eqInt64S, t_laws_eqInt64S]
  by_cases h : a.length = b.length
  · rw [show (((a.length : Nat) : Int) != ((b.length : Nat) : Int)) = false by simp [h], cond_false]
    have h' : w_laws_eqInt64S_5 (((a, ()), (b, ()), ((0 : Int), ()), ()), (), ()) = _ := eq_Int64S_loop a b hl a [] [] b rfl rfl rfl h.symm
    rw [h']
    by_cases e : a = b
    · rw [if_pos e, decide_eq_true e]; rfl
    · rw [if_neg e, decide_eq_false e]; rfl
  · rw [show (((a.length : Nat) : Int) != ((b.length : Nat) : Int)) = true by simp; omega, cond_true, decide_eq_false (fun e => h (by rw [e]))]


theorem ixf_impl_areLengths_1_loop (l : List Int) (hl : l.length ≤ 4611686018427387904) (P : Int → Bool) (hP : ∀ x, x ∈ l → g_impl_areLengths_1 x = some (P x)) : ∀ (r p : List Int), l = p ++ r →
    w_slices_IndexFunc_Sint64_int64__impl_areLengths_1_3 (m_slices_IndexFunc_Sint64_int64__impl_areLengths_1_3 l ((l.length : Nat) : Int) ((p.length : Nat) : Int)) = some (match r.findIdx? P with | some j => .inl (d_slices_IndexFunc_Sint64_int64__impl_areLengths_1_3_0 (((p.length + j : Nat) : Int))) | none => .inr (.inl d_slices_IndexFunc_Sint64_int64__impl_areLengths_1_3_1))
  | [], p, h => by
    rw [wq_slices_IndexFunc_Sint64_int64__impl_areLengths_1_3, u_slices_IndexFunc_Sint64_int64__impl_areLengths_1_3, lt_end h, cond_false]; rfl
  | x :: r, p, h => by
    rw [wq_slices_IndexFunc_Sint64_int64__impl_areLengths_1_3, u_slices_IndexFunc_Sint64_int64__impl_areLengths_1_3, lt_in h, cond_true, ix h]
    simp only [Option.bind_some]
    rw [hP x (by rw [h]; simp)]
    simp only [Option.bind_some]
    rw [List.findIdx?_cons]
    cases hx : P x
    · rw [cond_false, wr h hl]
      refine (ixf_impl_areLengths_1_loop l hl P hP r (p ++ [x]) (nxt h)).trans ?_
      simp only [Bool.false_eq_true, if_false]
      cases hf : r.findIdx? P
      · rfl
      · simp [Nat.add_comm, Nat.add_left_comm]
    · rfl

theorem ixf_impl_areLengths_1 (l : List Int) (hl : l.length ≤ 4611686018427387904) (P : Int → Bool) (hP : ∀ x, x ∈ l → g_impl_areLengths_1 x = some (P x)) : g_slices_IndexFunc_Sint64_int64__impl_areLengths_1 l = some (match l.findIdx? P with | some j => (j : Int) | none => -1) := by
  have h' : w_slices_IndexFunc_Sint64_int64__impl_areLengths_1_3 (m_slices_IndexFunc_Sint64_int64__impl_areLengths_1_3 l l.length 0) = _ := ixf_impl_areLengths_1_loop l hl P hP l [] rfl
  rw [g_slices_IndexFunc_Sint64_int64__impl_areLengths_1, t_slices_IndexFunc_Sint64_int64__impl_areLengths_1, h']
  cases l.findIdx? P <;> simp [exC]

theorem has_impl_areLengths_1 (l : List Int) (hl : l.length ≤ 4611686018427387904) (P : Int → Bool) (hP : ∀ x, x ∈ l → g_impl_areLengths_1 x = some (P x)) : g_slices_ContainsFunc_Sint64_int64__impl_areLengths_1 l = some (l.any P) := by
  rw [g_slices_ContainsFunc_Sint64_int64__impl_areLengths_1, t_slices_ContainsFunc_Sint64_int64__impl_areLengths_1, ixf_impl_areLengths_1 l hl P hP, Option.bind_some, any_findIdx]
  cases l.findIdx? P with
  | none => rfl
  | some j => simp

theorem ixf_impl_ValidStrip_1_loop (l : List Int) (hl : l.length ≤ 4611686018427387904) (P : Int → Bool) (hP : ∀ x, x ∈ l → g_impl_ValidStrip_1 x = some (P x)) : ∀ (r p : List Int), l = p ++ r →
    w_slices_IndexFunc_Sint64_int64__impl_ValidStrip_1_3 (m_slices_IndexFunc_Sint64_int64__impl_ValidStrip_1_3 l ((l.length : Nat) : Int) ((p.length : Nat) : Int)) = some (match r.findIdx? P with | some j => .inl (d_slices_IndexFunc_Sint64_int64__impl_ValidStrip_1_3_0 (((p.length + j : Nat) : Int))) | none => .inr (.inl d_slices_IndexFunc_Sint64_int64__impl_ValidStrip_1_3_1))
  | [], p, h => by
    rw [wq_slices_IndexFunc_Sint64_int64__impl_ValidStrip_1_3, u_slices_IndexFunc_Sint64_int64__impl_ValidStrip_1_3, lt_end h, cond_false]; rfl
  | x :: r, p, h => by
    rw [wq_slices_IndexFunc_Sint64_int64__impl_ValidStrip_1_3, u_slices_IndexFunc_Sint64_int64__impl_ValidStrip_1_3, lt_in h, cond_true, ix h]
    simp only [Option.bind_some]
    rw [hP x (by rw [h]; simp)]
    simp only [Option.bind_some]
    rw [List.findIdx?_cons]
    cases hx : P x
    · rw [cond_false, wr h hl]
      refine (ixf_impl_ValidStrip_1_loop l hl P hP r (p ++ [x]) (nxt h)).trans ?_
      simp only [Bool.false_eq_true, if_false]
      cases hf : r.findIdx? P
      · rfl
      · simp [Nat.add_comm, Nat.add_left_comm]
    · rfl

theorem ixf_impl_ValidStrip_1 (l : List Int) (hl : l.length ≤ 4611686018427387904) (P : Int → Bool) (hP : ∀ x, x ∈ l → g_impl_ValidStrip_1 x = some (P x)) : g_slices_IndexFunc_Sint64_int64__impl_ValidStrip_1 l = some (match l.findIdx? P with | some j => (j : Int) | none => -1) := by
  have h' : w_slices_IndexFunc_Sint64_int64__impl_ValidStrip_1_3 (m_slices_IndexFunc_Sint64_int64__impl_ValidStrip_1_3 l l.length 0) = _ := ixf_impl_ValidStrip_1_loop l hl P hP l [] rfl
  rw [g_slices_IndexFunc_Sint64_int64__impl_ValidStrip_1, t_slices_IndexFunc_Sint64_int64__impl_ValidStrip_1, h']
  cases l.findIdx? P <;> simp [exC]

theorem has_impl_ValidStrip_1 (l : List Int) (hl : l.length ≤ 4611686018427387904) (P : Int → Bool) (hP : ∀ x, x ∈ l → g_impl_ValidStrip_1 x = some (P x)) : g_slices_ContainsFunc_Sint64_int64__impl_ValidStrip_1 l = some (l.any P) := by
  rw [g_slices_ContainsFunc_Sint64_int64__impl_ValidStrip_1, t_slices_ContainsFunc_Sint64_int64__impl_ValidStrip_1, ixf_impl_ValidStrip_1 l hl P hP, Option.bind_some, any_findIdx]
  cases l.findIdx? P with
  | none => rfl
  | some j => simp

/-! validity -/
def P1 (x : Int) : Bool := decide (x ≥ 1) && decide (x ≤ 1000)
def tot : List Int → Int
  | [] => 0
  | x :: r => x + tot r

theorem hwI (a b c : Int) : g_impl_within a b c = some (decide (a ≥ b) && decide (a ≤ c)) := by
  unfold g_impl_within t_impl_within
  cases decide (a ≥ b) <;> rfl
theorem hwS (a b c : Int) : g_spec_l00In a b c = some (decide (a ≥ b) && decide (a ≤ c)) := by
  unfold g_spec_l00In t_spec_l00In
  cases decide (a ≥ b) <;> rfl

theorem P1_iff {x : Int} (h : P1 x = true) : 1 ≤ x ∧ x ≤ 1000 := by
  simp only [P1, Bool.and_eq_true, decide_eq_true_eq] at h; exact h

theorem sizes_loop (l : List Int) (hl : l.length ≤ 14) : ∀ (r p : List Int) (s : Int), l = p ++ r → 0 ≤ s → s ≤ 1000 * p.length →
    ∃ s', w_spec_l25Sizes_6 (m_spec_l25Sizes_6 l s ((p.length : Nat) : Int)) = some (cond (r.all P1) (.inr (.inl (d_spec_l25Sizes_6_1 (s + tot r)))) (.inl (d_spec_l25Sizes_6_0 false s')))
  | [], p, s, h, h1, h2 => ⟨0, by
    rw [wq_spec_l25Sizes_6, u_spec_l25Sizes_6, lt_end h, cond_false]
    simp [tot]; rfl⟩
  | x :: r, p, s, h, h1, h2 => by
    have hp := len_in h
    rw [wq_spec_l25Sizes_6, u_spec_l25Sizes_6, lt_in h, cond_true, ix h]
    simp only [Option.bind_some, hwS, List.all_cons]
    show ∃ s', cond (!P1 x) _ _ = _
    cases hx : P1 x
    · exact ⟨s, rfl⟩
    · have hx' := P1_iff hx
      simp only [Bool.not_true, cond_false, Bool.true_and]
      rw [wr h (by omega), wrap_id (n := s + x) (by omega) (by omega)]
      obtain ⟨s', IH⟩ := sizes_loop l hl r (p ++ [x]) (s + x) (nxt h) (by omega) (by simp; omega)
      refine ⟨s', IH.trans ?_⟩
      simp only [tot, Int.add_assoc]

/-- Lengths are valid. -/
def szs (l : List Int) : Bool := (decide ((l.length : Int) ≥ 1) && decide ((l.length : Int) ≤ 14)) && (l.all P1 && decide (tot l ≤ 1000))

theorem spec_sizes (l : List Int) : g_spec_l25Sizes l = some (szs l) := by
  rw [g_spec_l25Sizes, t_spec_l25Sizes, hwS, Option.bind_some]
  unfold szs
  cases hc : (decide ((l.length : Int) ≥ 1) && decide ((l.length : Int) ≤ 14))
  · rfl
  · have h14 : l.length ≤ 14 := by
      simp only [Bool.and_eq_true, decide_eq_true_eq] at hc; omega
    obtain ⟨s', hw⟩ := sizes_loop l h14 l [] 0 rfl (by omega) (by simp)
    have hw' : w_spec_l25Sizes_6 (m_spec_l25Sizes_6 l 0 0) = _ := hw
    rw [hw']
    cases ha : l.all P1
    · rfl
    · simp only [Bool.not_true, cond_false, cond_true, Option.bind_some, Bool.true_and, exC, Int.zero_add]

theorem sum_loop (l : List Int) (hl : l.length ≤ 14) (ha : l.all P1 = true) : ∀ (r p : List Int) (s : Int), l = p ++ r → 0 ≤ s → s ≤ 1000 * p.length →
    w_impl_sumOf_4 (m_impl_sumOf_4 s l ((l.length : Nat) : Int) ((p.length : Nat) : Int)) = some (.inl (d_impl_sumOf_4_0 (s + tot r)))
  | [], p, s, h, h1, h2 => by
    rw [wq_impl_sumOf_4, u_impl_sumOf_4, lt_end h, cond_false]
    simp [tot]; rfl
  | x :: r, p, s, h, h1, h2 => by
    have hp := len_in h
    have hx' := P1_iff (List.all_eq_true.1 ha x (by rw [h]; simp))
    rw [wq_impl_sumOf_4, u_impl_sumOf_4, lt_in h, cond_true, ix h]
    simp only [Option.bind_some]
    rw [wr h (by omega), wrap_id (n := s + x) (by omega) (by omega)]
    refine (sum_loop l hl ha r (p ++ [x]) (s + x) (nxt h) (by omega) (by simp; omega)).trans ?_
    simp only [tot, Int.add_assoc]

theorem impl_sum (l : List Int) (hl : l.length ≤ 14) (ha : l.all P1 = true) : g_impl_sumOf l = some (tot l) := by
  have h' : w_impl_sumOf_4 (m_impl_sumOf_4 0 l l.length 0) = _ := sum_loop l hl ha l [] 0 rfl (by omega) (by simp)
  rw [g_impl_sumOf, t_impl_sumOf, h']
  simp [exC]

theorem impl_sizes (l : List Int) (hl : l.length ≤ 1048577) : g_impl_areLengths l = some (szs l) := by
  have h1 : ∀ x, g_impl_areLengths_1 x = some (!P1 x) := fun x => by
    rw [g_impl_areLengths_1, t_impl_areLengths_1, hwI]; rfl
  rw [g_impl_areLengths, t_impl_areLengths, g_impl_length_int64, t_impl_length_int64, Option.bind_some, hwI, Option.bind_some]
  unfold szs
  cases hc : (decide ((l.length : Int) ≥ 1) && decide ((l.length : Int) ≤ 14))
  · rfl
  · have h14 : l.length ≤ 14 := by
      simp only [Bool.and_eq_true, decide_eq_true_eq] at hc; omega
    rw [cond_true, has_impl_areLengths_1 l (by omega) (fun x => !P1 x) (fun x _ => h1 x), Option.bind_some]
    rw [show (l.any fun x => !P1 x) = !l.all P1 by simp [List.all_eq_not_any_not]]
    cases ha : l.all P1
    · rfl
    · rw [impl_sum l h14 ha]
      simp only [Bool.not_true, Bool.not_false, cond_true, Option.bind_some, Bool.true_and]


def P2 (x : Int) : Bool := decide (x ≥ 2) && decide (x ≤ 3)
theorem kinds_loop (a b : List Int) (hl : b.length ≤ 1048576) : ∀ (r p : List Int), b = p ++ r →
    w_spec_l25Ok_5 (m_spec_l25Ok_5 ((p.length : Nat) : Int) a b) = some (cond (r.all P2) (.inr (.inl d_spec_l25Ok_5_1)) (.inl (d_spec_l25Ok_5_0 false)))
  | [], p, h => by
    rw [wq_spec_l25Ok_5, u_spec_l25Ok_5, lt_end h, cond_false]; rfl
  | x :: r, p, h => by
    rw [wq_spec_l25Ok_5, u_spec_l25Ok_5, lt_in h, cond_true, ix h]
    simp only [Option.bind_some, hwS, List.all_cons]
    show cond (!P2 x) _ _ = _
    cases hx : P2 x
    · rfl
    · simp only [Bool.not_true, cond_false, Bool.true_and]
      rw [wr h (by omega)]
      exact kinds_loop a b hl r (p ++ [x]) (nxt h)

/-- A strip is valid. -/
def okS (a : List Int × List Int) : Bool := szs a.1 && (decide ((a.2.length : Int) = (a.1.length : Int) - 1) && a.2.all P2)

theorem spec_ok (a : List Int × List Int) (h1 : a.1.length ≤ 1048576) (h2 : a.2.length ≤ 1048576) : g_spec_l25Ok a = some (okS a) := by
  rw [g_spec_l25Ok, t_spec_l25Ok, spec_sizes, Option.bind_some, wrap_id (n := ((a.1.length : Nat) : Int) - 1) (by omega) (by omega), bne_int]
  unfold okS
  cases szs a.1
  · rfl
  · by_cases he : (a.2.length : Int) = (a.1.length : Int) - 1
    · rw [dec_t he]
      have hw' : w_spec_l25Ok_5 (m_spec_l25Ok_5 0 a.1 a.2) = _ := kinds_loop a.1 a.2 h2 a.2 [] rfl
      rw [hw']
      cases a.2.all P2 <;> rfl
    · rw [dec_f he]; rfl

theorem impl_ok (a : List Int × List Int) (h1 : a.1.length ≤ 1048577) (h2 : a.2.length ≤ 1048576) : g_impl_ValidStrip a = some (okS a) := by
  have hk : ∀ x, g_impl_ValidStrip_1 x = some (!P2 x) := fun x => by
    rw [g_impl_ValidStrip_1, t_impl_ValidStrip_1, hwI]; rfl
  rw [g_impl_ValidStrip, t_impl_ValidStrip, impl_sizes _ h1, Option.bind_some, wrap_id (n := ((a.1.length : Nat) : Int) - 1) (by omega) (by omega)]
  unfold okS
  rw [show (((a.2.length : Nat) : Int) == ((a.1.length : Nat) : Int) - 1) = decide ((a.2.length : Int) = (a.1.length : Int) - 1) from rfl]
  cases szs a.1
  · rfl
  · cases decide ((a.2.length : Int) = (a.1.length : Int) - 1)
    · rfl
    · rw [has_impl_ValidStrip_1 a.2 (by omega) (fun x => !P2 x) (fun x _ => hk x), Option.bind_some]
      rw [show (a.2.any fun x => !P2 x) = !a.2.all P2 by simp [List.all_eq_not_any_not]]
      cases a.2.all P2 <;> rfl

/-! places -/
end Go.Proofs.YtjfgddmngnkfdaaDoor
