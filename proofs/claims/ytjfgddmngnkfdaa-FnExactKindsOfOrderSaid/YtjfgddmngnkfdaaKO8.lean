/- The plain law on KindsOfOrder: what the law computes is true. No conditions. -/
import Derived.Test.YtjfgddmngnkfdaaKO7
namespace Go.Proofs.Ytjfgddmngnkfdaa
open Go.Vai

def kin (x : Int) : Bool := decide (2 ≤ x) && decide (x ≤ 4)
def okK (L K : List Int) : Bool := decide (K.length = L.length) && K.all kin

theorem kin_inv {x : Int} (h : kin x = true) : x = 2 ∨ x = 3 ∨ x = 4 := by
  simp only [kin, Bool.and_eq_true, decide_eq_true_eq] at h
  omega

theorem kin_step {R : Type} (x : Int) (p q : Option R) : cond (x != (2 : Int)) (cond (x != (3 : Int)) (cond true (cond (!(x == (4 : Int))) q p) q) p) p = cond (kin x) p q := by
  by_cases h2 : x = 2
  · subst h2; rfl
  · by_cases h3 : x = 3
    · subst h3; rfl
    · by_cases h4 : x = 4
      · subst h4; rfl
      · have e2 : (x != 2) = true := by rw [bne_iff_ne]; exact h2
        have e3 : (x != 3) = true := by rw [bne_iff_ne]; exact h3
        have e4 : (x == 4) = false := by rw [beq_eq_false_iff_ne]; exact h4
        have e5 : kin x = false := by
          cases hk : kin x with
          | false => rfl
          | true => have := kin_inv hk; omega
        rw [e2, e3, e4, e5]; rfl

theorem range_all (K : List Int) (P : Int → Bool) : ((List.range K.length).all fun i => P (K.getD i 0)) = K.all P := by
  rw [Bool.eq_iff_iff, List.all_eq_true, List.all_eq_true]
  constructor
  · intro h x hx
    obtain ⟨i, hi, rfl⟩ := List.getElem_of_mem hx
    have := h i (by simpa using hi)
    rw [List.getD_eq_getElem?_getD, List.getElem?_eq_getElem hi] at this
    exact this
  · intro h i hi
    have hi' : i < K.length := by simpa using hi
    refine h _ ?_
    rw [List.getD_eq_getElem?_getD, List.getElem?_eq_getElem hi']
    exact List.getElem_mem hi'

theorem kindsS (L K : List Int) (hK : K.length ≤ 1048576) : g_spec_l11Kinds L K true = some (okK L K) := by
  rw [g_spec_l11Kinds, t_spec_l11Kinds]
  have h : w_spec_l11Kinds_3 (m_spec_l11Kinds_3 L K true 0) = some (cond ((List.range K.length).all fun i => kin (K.getD i 0)) (.inr (.inl (d_spec_l11Kinds_3_1 L K))) (.inl (d_spec_l11Kinds_3_0 L K false))) := by
    refine all_loop (W := fun i => w_spec_l11Kinds_3 (m_spec_l11Kinds_3 L K true (i : Int))) ?_ ?_
    · try simp only []
      rw [wq_spec_l11Kinds_3, u_spec_l11Kinds_3, dec_f (by omega), cond_false]; rfl
    · intro i hi
      try simp only []
      rw [wq_spec_l11Kinds_3, u_spec_l11Kinds_3, dec_t (by omega), cond_true, ixg (d := 0) hi, Option.bind_some, w1 (by omega)]
      exact kin_step _ _ _
  rw [h, range_all]
  unfold okK
  cases K.all kin
  · simp only [cond_false, Bool.and_false]; rfl
  · simp only [cond_true, Bool.and_true]
    show some ((((K.length : Nat) : Int)) == ((L.length : Nat) : Int)) = _
    rw [beq_nat]; rfl

/-- What GoodSectorOrder gives. -/
def gso (L K O : List Int) : Bool := okC L && (okK L K && ((decide (O.length = L.length * L.length) && formB L.length (plc 0 0 L) O) && gdS L.length (plc 0 0 L) O K))

theorem own_id (l : List Int) (hl : l.length ≤ 1048576) : g_spec_l00Own l = some l := by
  rw [g_spec_l00Own, t_spec_l00Own, dec_t (by simp; omega), dec_t (by simp; omega)]; rfl

theorem specG (L K O : List Int) (hL : L.length ≤ 1048576) (hK : K.length ≤ 1048576) (hO : O.length ≤ 1048576) : g_spec_GoodSectorOrder L K O = some (gso L K O) := by
  rw [g_spec_GoodSectorOrder, t_spec_GoodSectorOrder, spec_ok L hL, Option.bind_some, kindsS L K hK, Option.bind_some]
  unfold gso
  cases hc : okC L
  · rfl
  · cases hk : okK L K
    · rfl
    · obtain ⟨h1, h2, h3, h4, h5⟩ := okC_inv hc
      have hXl : (plc 0 0 L).length = L.length := plc_length L 0 0
      have hKl : K.length = L.length := by
        simp only [okK, Bool.and_eq_true, decide_eq_true_eq] at hk
        exact hk.1
      rw [newS hXl (by omega) h2 L rfl rfl, Option.bind_some, formS h2, Option.bind_some]
      simp only [Bool.not_true, cond_false, Bool.true_and]
      cases hf : (decide (O.length = L.length * L.length) && formB L.length (plc 0 0 L) O)
      · rfl
      · simp only [Bool.and_eq_true, decide_eq_true_eq] at hf
        rw [own_id O hO, Option.bind_some]
        have := goodS (O := O) (K := K) hXl (by omega) h2 hf.1 hKl
        rw [this]; rfl


/-! the program's side -/
theorem openS_loop (n : Nat) (hn : n ≤ 1048576) : w_spec_l11Open_4 (m_spec_l11Open_4 (n : Int) [] 0) = some (.inl (d_spec_l11Open_4_0 (List.replicate n 4))) := by
  refine for_loop (W := fun i => w_spec_l11Open_4 (m_spec_l11Open_4 (n : Int) (List.replicate i 4) (i : Int))) (n := n) ?_ ?_
  · try simp only []
    rw [wq_spec_l11Open_4, u_spec_l11Open_4, dec_f (by omega), cond_false]; rfl
  · intro i hi
    try simp only []
    rw [wq_spec_l11Open_4, u_spec_l11Open_4, dec_t (by omega), cond_true, dec_t (by simp; omega), cond_true, dec_t (by simp; omega), cond_true, w1 (by omega), ← List.replicate_succ']

theorem openS (n : Nat) (hn : n ≤ 1048576) : g_spec_l11Open (n : Int) = some (List.replicate n 4) := by
  rw [g_spec_l11Open, t_spec_l11Open, openS_loop n hn]; rfl

theorem mul_one_n : ∀ n : Fin 17, g_math_bits_Mul (IntKind.wrap .u64 1) (IntKind.wrap .u64 (n.val : Int)) = some (0, (n.val : Int)) := by decide +kernel

theorem over_rep (k N : Nat) (hk : k ≤ N) (j : Nat) (hj : k + j ≤ N) : overL 0 (0 + k) (List.replicate j (4 : Int)) (List.replicate k 4 ++ List.replicate (N - k) 0) = List.replicate (k + j) 4 ++ List.replicate (N - (k + j)) 0 := by
  apply List.ext_getElem?
  intro i
  rw [overL_get]
  by_cases h1 : i < k
  · rw [List.getElem?_append_left (by simpa using h1), List.getElem?_append_left (by simp; omega)]
    simp only [List.getElem?_replicate, if_pos h1, if_pos (show i < k + j by omega), Option.map_some, overE, if_neg (show ¬ 0 + k ≤ 0 + i by omega)]
  · rw [List.getElem?_append_right (by simp; omega)]
    by_cases h2 : i < k + j
    · rw [List.getElem?_append_left (by simp; omega)]
      simp only [List.length_replicate, List.getElem?_replicate, if_pos (show i - k < N - k by omega), if_pos h2, Option.map_some, overE, if_pos (show 0 + k ≤ 0 + i by omega), if_pos (show 0 + i - (0 + k) < j by omega), Option.getD_some]
    · rw [List.getElem?_append_right (by simp; omega)]
      by_cases h3 : i < N
      · simp only [List.length_replicate, List.getElem?_replicate, if_pos (show i - k < N - k by omega), if_pos (show i - (k + j) < N - (k + j) by omega), Option.map_some, overE, if_pos (show 0 + k ≤ 0 + i by omega), if_neg (show ¬ 0 + i - (0 + k) < j by omega), Option.getD_none]
      · simp only [List.length_replicate, List.getElem?_replicate, if_neg (show ¬ i - k < N - k by omega), if_neg (show ¬ i - (k + j) < N - (k + j) by omega), Option.map_none]

theorem rep_loop (N : Nat) (hN : N ≤ 16) : ∀ (f k : Nat), 1 ≤ k → k ≤ N → N - k ≤ f →
    w_slices_Repeat_Sint64_int64_9 (m_slices_Repeat_Sint64_int64_9 (List.replicate k 4 ++ List.replicate (N - k) 0) (k : Int)) = some (.inl (d_slices_Repeat_Sint64_int64_9_0 (List.replicate N 4))) := by
  intro f
  induction f with
  | zero =>
    intro k h1 h2 h3
    have : k = N := by omega
    subst this
    rw [wq_slices_Repeat_Sint64_int64_9, u_slices_Repeat_Sint64_int64_9, dec_f (by simp), cond_false, Nat.sub_self, List.replicate_zero, List.append_nil]; rfl
  | succ f ih =>
    intro k h1 h2 h3
    by_cases hk : k = N
    · subst hk
      rw [wq_slices_Repeat_Sint64_int64_9, u_slices_Repeat_Sint64_int64_9, dec_f (by simp), cond_false, Nat.sub_self, List.replicate_zero, List.append_nil]; rfl
    · have hl : (List.replicate k (4 : Int) ++ List.replicate (N - k) 0).length = N := by simp; omega
      have ht : List.drop 0 (List.take k (List.replicate k (4 : Int) ++ List.replicate (N - k) 0)) = List.replicate k 4 := by
        rw [List.drop_zero, List.take_left' (by simp)]
      have hd : (List.drop k (List.take N (List.replicate k (4 : Int) ++ List.replicate (N - k) 0))).length = N - k := by
        rw [List.length_drop, List.length_take, hl]; omega
      rw [wq_slices_Repeat_Sint64_int64_9, u_slices_Repeat_Sint64_int64_9]
      simp only [hl, Int.toNat_natCast, ht, hd, List.length_replicate]
      rw [dec_t (p := ((k : Nat) : Int) < (N : Int)) (by omega), dec_t (p := 0 < N) (by omega), dec_t (p := (0 : Int) ≤ (k : Int)) (by omega), dec_t (p := ((k : Nat) : Int) ≤ (N : Int)) (by omega)]
      simp only [cond_true]
      by_cases hh : k ≤ N - k
      · rw [dec_t hh, cond_true, over_rep k N h2 k (by omega), wrap_id (by omega) (by omega), show ((k : Nat) : Int) + (k : Int) = ((k + k : Nat) : Int) by omega]
        exact ih (k + k) (by omega) (by omega) (by omega)
      · rw [dec_f hh, cond_false, List.take_replicate, show min (N - k) k = N - k by omega, over_rep k N h2 (N - k) (by omega), wrap_id (by omega) (by omega), show ((k : Nat) : Int) + ((N - k : Nat) : Int) = ((k + (N - k) : Nat) : Int) by omega]
        exact ih (k + (N - k)) (by omega) (by omega) (by omega)

theorem repI (n : Nat) (h1 : 1 ≤ n) (hn : n ≤ 16) : g_slices_Repeat_Sint64_int64 [4] (n : Int) = some (List.replicate n 4) := by
  have hm : g_math_bits_Mul (IntKind.wrap .u64 (([(4 : Int)].length : Nat) : Int)) (IntKind.wrap .u64 (n : Int)) = some (0, (n : Int)) := mul_one_n ⟨n, by omega⟩
  rw [g_slices_Repeat_Sint64_int64, t_slices_Repeat_Sint64_int64, hm, dec_f (p := ((n : Nat) : Int) < 0) (by omega), cond_false]
  simp only [Option.bind_some]
  rw [wrap_id (n := (n : Int)) (by omega) (by omega), Int.toNat_natCast, dec_f (p := (0 : Int) > 0) (by omega), dec_f (p := ((n : Nat) : Int) > 9223372036854775807) (by omega), dec_t (p := (0 : Int) ≤ (n : Int)) (by omega), dec_t (p := (n : Int) ≤ (n : Int)) (by omega), dec_t (p := (n : Int) * ((8 : Nat) : Int) ≤ 70368744177664) (by omega), dec_t (p := (n : Int) ≤ 70368744177664) (by omega)]
  have hc : decide (([(4 : Int)] : List Int).length ≤ (List.replicate n (0 : Int)).length) = true := dec_t (by simp; omega)
  rw [hc]
  simp only [cond_true, cond_false]
  have ho : overL 0 0 [(4 : Int)] (List.replicate n 0) = List.replicate 1 4 ++ List.replicate (n - 1) 0 := by
    have := over_rep 0 n (by omega) 1 (by omega)
    simpa using this
  have h := rep_loop n hn n 1 (by omega) h1 (by omega)
  rw [ho]
  have h' : w_slices_Repeat_Sint64_int64_9 (m_slices_Repeat_Sint64_int64_9 (List.replicate 1 4 ++ List.replicate (n - 1) 0) (([(4 : Int)].length : Nat) : Int)) = _ := h
  rw [h']; rfl

/-! neighbours overlap -/
theorem xstep {L : List Int} (h : okC L = true) {j : Nat} (hj : j < L.length) : xAt (plc 0 0 L) (nxI L.length j) = xAt (plc 0 0 L) j + sg j (L.getD j 0) ∧ 1 ≤ L.getD j 0 := by
  obtain ⟨h1, h2, h3, h4, h5⟩ := okC_inv h
  have gpos : 1 ≤ L.getD j 0 := by
    have : L.getD j 0 ∈ L := by
      rw [List.getD_eq_getElem?_getD, List.getElem?_eq_getElem hj]
      exact List.getElem_mem hj
    exact (inr16_iff (List.all_eq_true.1 h4 _ this)).1
  refine ⟨?_, gpos⟩
  unfold xAt nxI
  by_cases hl : j + 1 < L.length
  · rw [Nat.mod_eq_of_lt hl]
    have := plc_step L 0 0 0 h4 (by omega) (by omega) (by omega) j hl
    rwa [Nat.zero_add] at this
  · have hj' : j = L.length - 1 := by omega
    have he := plc_end L 0 0 0 h4 (by omega) (by omega) (by omega) (by omega)
    rw [Nat.zero_add, ← hj'] at he
    rw [show (j + 1) % L.length = 0 by rw [show j + 1 = L.length by omega, Nat.mod_self]]
    have e0 : (plc 0 0 L).getD 0 0 = 0 := by
      cases L with
      | nil => simp at h1
      | cons y r => rfl
    rw [e0, he]; omega

theorem near_ov {L : List Int} (h : okC L = true) {i : Nat} (hi : i < L.length) : ov L.length (plc 0 0 L) (pvI L.length i) i = true := by
  obtain ⟨h1, h2, h3, h4, h5⟩ := okC_inv h
  have hp := pv_lt (n := L.length) (by omega) i
  have hpn : nxI L.length (pvI L.length i) = i := by
    unfold nxI pvI
    cases i with
    | zero => rw [Nat.zero_add, Nat.mod_eq_of_lt (show L.length - 1 < L.length by omega), Nat.sub_add_cancel (by omega), Nat.mod_self]
    | succ i => rw [show i + 1 + L.length - 1 = i + L.length by omega, Nat.add_mod_right, Nat.mod_eq_of_lt (show i < L.length by omega), Nat.mod_eq_of_lt hi]
  have hpar : (pvI L.length i) % 2 ≠ i % 2 := by
    unfold pvI
    cases i with
    | zero => rw [Nat.zero_add, Nat.mod_eq_of_lt (show L.length - 1 < L.length by omega)]; omega
    | succ i => rw [show i + 1 + L.length - 1 = i + L.length by omega, Nat.add_mod_right, Nat.mod_eq_of_lt (show i < L.length by omega)]; omega
  have a := xstep h hp
  have b := xstep h hi
  rw [hpn] at a
  unfold ov loAt hiAt
  rw [hpn]
  have hne : (pvI L.length i == i) = false := by
    rw [beq_eq_false_iff_ne]; intro e; rw [e] at hpar; exact hpar rfl
  rw [hne]
  simp only [Bool.not_false, Bool.true_and, decide_eq_true_eq]
  obtain ⟨a1, a2⟩ := a
  obtain ⟨b1, b2⟩ := b
  generalize L.getD (pvI L.length i) 0 = u at *
  generalize L.getD i 0 = v at *
  generalize xAt (plc 0 0 L) i = x at *
  generalize xAt (plc 0 0 L) (pvI L.length i) = y at *
  generalize xAt (plc 0 0 L) (nxI L.length i) = z at *
  unfold sg at a1 b1
  by_cases he : i % 2 = 0
  · rw [show (i % 2 == 0) = true by simp [he], cond_true] at b1
    rw [show (pvI L.length i % 2 == 0) = false by rw [beq_eq_false_iff_ne]; omega, cond_false] at a1
    omega
  · rw [show (i % 2 == 0) = false by rw [beq_eq_false_iff_ne]; omega, cond_false] at b1
    rw [show (pvI L.length i % 2 == 0) = true by rw [beq_iff_eq]; omega, cond_true] at a1
    omega

/-! the kinds -/
def spK (n : Nat) (O : List Int) (i : Nat) : Int := cond (Int.tmod (i : Int) 2 == 1)
  (cond (IntKind.wrap .i64 (0 - aAt n O i (pvI n i)) == 1) 2 3) (cond (aAt n O i (pvI n i) == 1) 2 3)

theorem sp_ki {L O : List Int} (h : okC L = true) (hf : formB L.length (plc 0 0 L) O = true) {i : Nat} (hi : i < L.length) : kiA L.length O i = spK L.length O i := by
  obtain ⟨h1, h2, h3, h4, h5⟩ := okC_inv h
  have hp := pv_lt (n := L.length) (by omega) i
  obtain ⟨f1, f2, f3⟩ := form_inv hf hp hi
  rw [near_ov h hi, bne_iff_ne] at f3
  unfold kiA spK
  rw [f2]
  have hm : Int.tmod (i : Int) 2 = ((i % 2 : Nat) : Int) := by
    rw [Int.tmod_eq_emod_of_nonneg (by omega)]; omega
  rw [hm]
  rcases f1 with e | e | e
  · rw [e]
    by_cases he : i % 2 = 0
    · rw [he]; decide
    · rw [show i % 2 = 1 by omega]; decide
  · exact absurd e f3
  · rw [e]
    by_cases he : i % 2 = 0
    · rw [he]; decide
    · rw [show i % 2 = 1 by omega]; decide

theorem okK_rep (L : List Int) : okK L (List.replicate L.length 4) = true := by
  unfold okK
  simp [kin]

/-- What KindsOfOrder gives. -/
def kso (L O : List Int) : List Int × Bool := cond (gso L (List.replicate L.length 4) O) ((List.range L.length).map (spK L.length O), true) ([], false)

theorem gso_inv {L K O : List Int} (h : gso L K O = true) : okC L = true ∧ O.length = L.length * L.length ∧ formB L.length (plc 0 0 L) O = true := by
  simp only [gso, Bool.and_eq_true, decide_eq_true_eq] at h
  exact ⟨h.1, h.2.2.1.1, h.2.2.1.2⟩

theorem kindS_loop {n : Nat} {O : List Int} (hn : 1 ≤ n) (hn' : n ≤ 16) (hO : O.length = n * n) : w_spec_KindsOfOrder_7 (m_spec_KindsOfOrder_7 O (n : Int) [] 0) = some (.inl (d_spec_KindsOfOrder_7_0 ((List.range n).map (spK n O)))) := by
  refine for_loop (W := fun i => w_spec_KindsOfOrder_7 (m_spec_KindsOfOrder_7 O (n : Int) ((List.range i).map (spK n O)) (i : Int))) (n := n) ?_ ?_
  · try simp only []
    rw [wq_spec_KindsOfOrder_7, u_spec_KindsOfOrder_7, dec_f (by omega), cond_false]; rfl
  · intro i hi
    try simp only []
    have hp := pv_lt hn i
    have hb : i * n ≤ 16 * 16 := Nat.mul_le_mul (by omega) hn'
    have hpi : Int.tmod (IntKind.wrap .i64 (IntKind.wrap .i64 ((i : Int) + (n : Int)) - 1)) (n : Int) = ((pvI n i : Nat) : Int) := by
      rw [wrap_id (n := (i : Int) + n) (by omega) (by omega), wrap_id (by omega) (by omega), show (i : Int) + n - 1 = ((i + n - 1 : Nat) : Int) by omega, Int.tmod_eq_emod_of_nonneg (by omega)]
      rfl
    have hix : idx O (IntKind.wrap .i64 (IntKind.wrap .i64 ((i : Int) * (n : Int)) + ((pvI n i : Nat) : Int))) = some (aAt n O i (pvI n i)) := aAt_ix hn' hO hi hp
    rw [wq_spec_KindsOfOrder_7, u_spec_KindsOfOrder_7, dec_t (by omega), cond_true, dec_f (by omega), cond_false, hpi, hix, Option.bind_some, w1 (by omega)]
    rw [List.range_succ, List.map_append, List.map_singleton]
    simp only [List.length_map, List.length_range, List.length_singleton, dec_t (show (i + 1) * 8 ≤ 70368744177664 by omega), dec_t (show i + 1 ≤ 70368744177664 by omega), cond_true]
    unfold spK
    cases (Int.tmod (i : Int) 2 == 1) <;> cases (IntKind.wrap .i64 (0 - aAt n O i (pvI n i)) == 1) <;> cases (aAt n O i (pvI n i) == 1) <;> rfl

theorem kindI_loop {n : Nat} {X O : List Int} (hn : 1 ≤ n) (hn' : n ≤ 16) (hO : O.length = n * n) : w_impl_KindsOfOrder_7 (m_impl_KindsOfOrder_7 [] (n : Int) 0 (n : Int) X (SPN n X) O) = some (.inl (d_impl_KindsOfOrder_7_0 ((List.range n).map (kiA n O)))) := by
  refine for_loop (W := fun i => w_impl_KindsOfOrder_7 (m_impl_KindsOfOrder_7 ((List.range i).map (kiA n O)) (n : Int) (i : Int) (n : Int) X (SPN n X) O)) (n := n) ?_ ?_
  · try simp only []
    rw [wq_impl_KindsOfOrder_7, u_impl_KindsOfOrder_7, dec_f (by omega), cond_false]; rfl
  · intro i hi
    try simp only []
    have e : g_impl_cone_kindOf ((n : Int), (X, (SPN n X, O))) (i : Int) = some (kiA n O i) := kdI hn hn' hO hi
    rw [wq_impl_KindsOfOrder_7, u_impl_KindsOfOrder_7, dec_t (by omega), cond_true, e, Option.bind_some, w1 (by omega)]
    rw [List.range_succ, List.map_append, List.map_singleton]
    simp only [List.length_map, List.length_range, List.length_singleton, dec_t (show (i + 1) * 8 ≤ 70368744177664 by omega), dec_t (show i + 1 ≤ 70368744177664 by omega), cond_true]

theorem specK (L O : List Int) (hL : L.length ≤ 1048576) (hO : O.length ≤ 1048576) : g_spec_KindsOfOrder L O = some (kso L O) := by
  rw [g_spec_KindsOfOrder, t_spec_KindsOfOrder, openS L.length hL, Option.bind_some, specG L _ O hL (by simpa using hL) hO, Option.bind_some]
  unfold kso
  cases hg : gso L (List.replicate L.length 4) O
  · rfl
  · obtain ⟨hc, ho, hf⟩ := gso_inv hg
    obtain ⟨h1, h2, h3, h4, h5⟩ := okC_inv hc
    rw [Bool.not_true, cond_false, kindS_loop (by omega) h2 ho]; rfl

theorem implK (L O : List Int) (hL : L.length ≤ 1048576) : g_impl_KindsOfOrder L O = some (kso L O) := by
  rw [g_impl_KindsOfOrder, t_impl_KindsOfOrder, impl_ok L hL, Option.bind_some]
  unfold kso
  have hg : gso L (List.replicate L.length 4) O = (okC L && ((decide (O.length = L.length * L.length) && formB L.length (plc 0 0 L) O) && gdS L.length (plc 0 0 L) O (List.replicate L.length 4))) := by
    unfold gso
    rw [okK_rep, Bool.true_and]
  rw [hg]
  cases hc : okC L
  · rfl
  · obtain ⟨h1, h2, h3, h4, h5⟩ := okC_inv hc
    have hXl : (plc 0 0 L).length = L.length := plc_length L 0 0
    rw [Bool.not_true, cond_false, repI L.length (by omega) h2, Option.bind_some, g_impl_goodOrder, t_impl_goodOrder, newI hXl (by omega) h2 L rfl rfl, Option.bind_some, formI h2, Option.bind_some]
    simp only [Bool.true_and]
    cases hf : (decide (O.length = L.length * L.length) && formB L.length (plc 0 0 L) O)
    · rfl
    · simp only [Bool.and_eq_true, decide_eq_true_eq] at hf
      have := goodI (O := O) (K := List.replicate L.length 4) hXl (by omega) h2 hf.1 (by simp)
      rw [cond_true, this, good_eq hf.2 (by omega) (fun x hx => lo_par hc hx) (fun i hi => by
        right; right
        unfold kAt
        simp [List.getD_eq_getElem?_getD, hi])]
      simp only [Option.bind_some, Bool.true_and]
      cases gdS L.length (plc 0 0 L) O (List.replicate L.length 4)
      · rfl
      · rw [Bool.not_true, cond_false]
        have hw := kindI_loop (X := plc 0 0 L) (O := O) (by omega) h2 hf.1
        have hw' : w_impl_KindsOfOrder_7 (m_impl_KindsOfOrder_7 [] ((L.length : Nat) : Int) 0 (coI L.length (plc 0 0 L) O).1 (coI L.length (plc 0 0 L) O).2.1 (coI L.length (plc 0 0 L) O).2.2.1 (coI L.length (plc 0 0 L) O).2.2.2) = _ := hw
        rw [hw']
        have he : (List.range L.length).map (kiA L.length O) = (List.range L.length).map (spK L.length O) := List.map_congr_left fun i hi => sp_ki hc hf.2 (by simpa using hi)
        rw [he]; rfl

/-! marks -/
theorem marks_len : ∀ (n : Nat) (k : Int), (marks k n).length = n
  | 0, _ => rfl
  | n + 1, k => by simp [marks, marks_len n]

theorem mark_Int64S_loop : ∀ (s q : List Int) (k : Int), q.length + s.length ≤ 1048576 → 0 ≤ k → k + s.length ≤ 4000000000 →
    w_laws_markInt64S_3 (m_laws_markInt64S_3 (q ++ s) k ((q.length : Nat) : Int) (q ++ s)) = some (.inl (d_laws_markInt64S_3_0 (k + s.length) (q ++ marks k s.length)))
  | [], q, k, h1, h2, h3 => by
    rw [wq_laws_markInt64S_3, u_laws_markInt64S_3, dec_f (by simp), cond_false]
    simp [marks]; rfl
  | y :: s, q, k, h1, h2, h3 => by
    simp only [List.length_cons] at h1 h3
    rw [wq_laws_markInt64S_3, u_laws_markInt64S_3, dec_t (by simp; omega), cond_true, ix rfl]
    simp only [Option.bind_some]
    rw [set_mid rfl, wrap_id (n := k + 1) (by omega) (by omega), wrap_id (by omega) (by omega), show ((q.length : Nat) : Int) + 1 = (((q ++ [k]).length : Nat) : Int) by simp]
    refine (mark_Int64S_loop s (q ++ [k]) (k + 1) (by simp; omega) (by omega) (by omega)).trans ?_
    simp only [List.length_cons, marks, List.append_assoc, List.singleton_append]
    rw [show k + 1 + (s.length : Int) = k + ((s.length + 1 : Nat) : Int) by omega]

theorem mark_Int64S (l : List Int) (hl : l.length ≤ 1048576) (k : Int) (h0 : 0 ≤ k) (h1 : k ≤ 1000000000) : g_laws_markInt64S l k = some (k + l.length, marks k l.length) := by
  have h' : w_laws_markInt64S_3 (m_laws_markInt64S_3 l k 0 l) = _ := mark_Int64S_loop l [] k (by simpa using hl) h0 (by omega)
  rw [g_laws_markInt64S, t_laws_markInt64S, h']; rfl

theorem held_Int64S_loop (l : List Int) (hl : l.length ≤ 1048576) : ∀ (n : Nat) (p : List Int) (k : Int), l = p ++ marks k n → 0 ≤ k → k + n ≤ 4000000000 →
    w_laws_heldInt64S_3 (m_laws_heldInt64S_3 l k ((p.length : Nat) : Int)) = some (.inr (.inl (d_laws_heldInt64S_3_1 (k + n))))
  | 0, p, k, h, h0, h1 => by
    rw [wq_laws_heldInt64S_3, u_laws_heldInt64S_3, lt_end h, cond_false]
    simp; rfl
  | n + 1, p, k, h, h0, h1 => by
    rw [marks] at h
    rw [wq_laws_heldInt64S_3, u_laws_heldInt64S_3, lt_in h, cond_true, ix h]
    simp only [Option.bind_some]
    rw [show (k != k) = false by simp, cond_false, wrap_id (n := k + 1) (by omega) (by omega), wr h (by omega)]
    refine (held_Int64S_loop l hl n (p ++ [k]) (k + 1) (nxt h) (by omega) (by omega)).trans ?_
    rw [show k + 1 + (n : Int) = k + ((n + 1 : Nat) : Int) by omega]

theorem held_Int64S (n : Nat) (k : Int) (hn : n ≤ 1048576) (h0 : 0 ≤ k) (h1 : k ≤ 1000000000) : g_laws_heldInt64S (marks k n) k = some (k + n) := by
  have h' : w_laws_heldInt64S_3 (m_laws_heldInt64S_3 (marks k n) k 0) = _ := held_Int64S_loop (marks k n) (by rw [marks_len]; exact hn) n [] k rfl h0 (by omega)
  rw [g_laws_heldInt64S, t_laws_heldInt64S, h']; rfl

theorem kso_len (L O : List Int) (hL : L.length ≤ 1048576) : (kso L O).1.length ≤ 1048576 := by
  unfold kso
  cases gso L (List.replicate L.length 4) O <;> simp [hL]

theorem law_KindsOfOrder (L O : List Int) : g_laws_FnExactKindsOfOrder L O = some true := by
  rw [g_laws_FnExactKindsOfOrder, t_laws_FnExactKindsOfOrder]
  by_cases hL : L.length ≤ 1048576
  · rw [dec_f (p := ((L.length : Nat) : Int) > 1048576) (by omega), cond_false]
    by_cases hO : O.length ≤ 1048576
    · rw [dec_f (p := ((O.length : Nat) : Int) > 1048576) (by omega), cond_false]
      have hk := kso_len L O hL
      simp only [to_Int64S L hL, to_Int64S O hO, Option.bind_some, specK L O hL hO, implK L O hL, eq_Int64S L L (by omega), eq_Int64S O O (by omega), eq_Int64S (kso L O).1 (kso L O).1 (by omega), beq_self_eq_true, Bool.not_true, cond_false, decide_true, cond_true]
      rw [mark_Int64S L hL 1 (by omega) (by omega)]
      simp only [Option.bind_some]
      rw [mark_Int64S O hO _ (by omega) (by omega)]
      simp only [Option.bind_some]
      rw [dec_f (by omega), cond_false, mark_Int64S (kso L O).1 hk 1 (by omega) (by omega)]
      simp only [Option.bind_some]
      rw [held_Int64S _ 1 hk (by omega) (by omega)]
      simp only [Option.bind_some]
      rw [dec_f (by omega), cond_false, show (1 + (((kso L O).1.length : Nat) : Int) != 1 + (((kso L O).1.length : Nat) : Int)) = false by simp]
      rfl
    · rw [dec_t (p := ((O.length : Nat) : Int) > 1048576) (by omega)]; rfl
  · rw [dec_t (p := ((L.length : Nat) : Int) > 1048576) (by omega)]; rfl
end Go.Proofs.Ytjfgddmngnkfdaa
