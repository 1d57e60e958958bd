/- Lists of lines. No conditions. -/
import Derived.Test.YtooaomcmhgpbpaaDoorFQ3
namespace Go.Proofs.YtooaomcmhgpbpaaDoor
open Go.Vai
/-! lists of lines: what is written, what is held -/
noncomputable def mkLn (k : Int) : Ln := (k, (k + 1, (k + 1 + 1, k + 1 + 1 + 1)))
noncomputable def mkLns : Int → Nat → List Ln
  | _, 0 => []
  | k, n + 1 => mkLn k :: mkLns (k + 1 + 1 + 1 + 1) n

theorem mkLns_length : ∀ (n : Nat) (k : Int), (mkLns k n).length = n
  | 0, _ => rfl
  | n + 1, k => by simp [mkLns, mkLns_length n]

theorem w1 {k : Int} (h0 : 0 ≤ k) (h1 : k ≤ 1000000) : IntKind.wrap .i64 (k + 1) = k + 1 := wrap_id (by omega) (by omega)
theorem sm {α : Type} (q s : List α) (y v : α) : List.set (q ++ y :: s) (0 + Int.toNat ((q.length : Nat) : Int)) v = q ++ v :: s := by
  rw [set_mid rfl, List.append_assoc]; rfl
theorem im {α : Type} (q s : List α) (y : α) : idx (q ++ y :: s) ((q.length : Nat) : Int) = some y := ix rfl

theorem markLn_loop : ∀ (s q : List Ln) (k : Int), q.length + s.length ≤ 1000 → 0 ≤ k → k + 4 * s.length ≤ 900000 →
    w_laws_markLineS_3 (m_laws_markLineS_3 (q ++ s) k ((q.length : Nat) : Int) (q ++ s)) = some (.inl (d_laws_markLineS_3_0 (k + 4 * s.length) (q ++ mkLns k s.length)))
  | [], q, k, h1, h2, h3 => by
    rw [wq_laws_markLineS_3, u_laws_markLineS_3, lt_end rfl, cond_false]
    simp [mkLns]; rfl
  | y :: s, q, k, h1, h2, h3 => by
    simp only [List.length_cons] at h1 h3
    rw [wq_laws_markLineS_3, u_laws_markLineS_3, lt_in rfl, cond_true]
    simp only [im, sm, Option.bind_some]
    rw [w1 (k := k) (by omega) (by omega), w1 (k := k + 1) (by omega) (by omega), w1 (k := k + 1 + 1) (by omega) (by omega), w1 (k := k + 1 + 1 + 1) (by omega) (by omega)]
    rw [w1 (k := ((q.length : Nat) : Int)) (by omega) (by omega)]
    have IH := markLn_loop s (q ++ [mkLn k]) (k + 1 + 1 + 1 + 1) (by simp; omega) (by omega) (by omega)
    have hq : (((q ++ [mkLn k]).length : Nat) : Int) = (q.length : Int) + 1 := by simp
    rw [hq, List.append_assoc, List.append_assoc] at IH
    refine Eq.trans (Eq.trans ?_ IH) ?_
    · rfl
    · rw [show k + 1 + 1 + 1 + 1 + 4 * (s.length : Int) = k + 4 * (((y :: s).length : Nat) : Int) by simp; omega]
      rfl

theorem heldLn_loop (l : List Ln) (hl : l.length ≤ 1000) : ∀ (n : Nat) (p : List Ln) (k : Int), l = p ++ mkLns k n → 0 ≤ k → k + 4 * n ≤ 900000 →
    w_laws_heldLineS_3 (m_laws_heldLineS_3 l k ((p.length : Nat) : Int)) = some (.inr (.inl (d_laws_heldLineS_3_1 (k + 4 * n))))
  | 0, p, k, h, h1, h2 => by
    rw [wq_laws_heldLineS_3, u_laws_heldLineS_3, lt_end h, cond_false]
    simp; rfl
  | n + 1, p, k, h, h1, h2 => by
    rw [mkLns] at h
    rw [wq_laws_heldLineS_3, u_laws_heldLineS_3, lt_in h, cond_true]
    simp only [ix h, Option.bind_some]
    rw [w1 (k := k) (by omega) (by omega), w1 (k := k + 1) (by omega) (by omega), w1 (k := k + 1 + 1) (by omega) (by omega), w1 (k := k + 1 + 1 + 1) (by omega) (by omega)]
    simp only [mkLn, bne_self_eq_false, cond_false]
    rw [wr h (by omega)]
    refine (heldLn_loop l hl n (p ++ [mkLn k]) _ (nxt h) (by omega) (by omega)).trans ?_
    rw [show k + 1 + 1 + 1 + 1 + 4 * (n : Int) = k + 4 * ((n + 1 : Nat) : Int) by omega]

theorem markLn_ok (l : List Ln) (hl : l.length ≤ 1000) : g_laws_markLineS l 1 = some (1 + 4 * (l.length : Int), mkLns 1 l.length) := by
  have h' : w_laws_markLineS_3 (m_laws_markLineS_3 l 1 0 l) = _ := markLn_loop l [] 1 (by simpa using hl) (by omega) (by omega)
  rw [g_laws_markLineS, t_laws_markLineS, h']; rfl
theorem heldLn_ok (n : Nat) (hn : n ≤ 1000) : g_laws_heldLineS (mkLns 1 n) 1 = some (1 + 4 * (n : Int)) := by
  have h' : w_laws_heldLineS_3 (m_laws_heldLineS_3 (mkLns 1 n) 1 0) = _ := heldLn_loop (mkLns 1 n) (by rw [mkLns_length]; exact hn) n [] 1 rfl (by omega) (by omega)
  rw [g_laws_heldLineS, t_laws_heldLineS, h']; rfl

theorem eqLns_loop (l : List Ln) (hl : l.length ≤ 1000) : ∀ (r p : List Ln), l = p ++ r → w_laws_eqLineS_5 (m_laws_eqLineS_5 l l ((p.length : Nat) : Int)) = some (.inr (.inl d_laws_eqLineS_5_1))
  | [], p, h => by
    rw [wq_laws_eqLineS_5, u_laws_eqLineS_5, lt_end h, cond_false]; rfl
  | x :: r, p, h => by
    rw [wq_laws_eqLineS_5, u_laws_eqLineS_5, lt_in h, cond_true, ix h]
    simp only [Option.bind_some]
    rw [eqLine_self, Option.bind_some, Bool.not_true, cond_false, wr h (by omega)]
    exact eqLns_loop l hl r (p ++ [x]) (nxt h)

theorem eqLns_self (l : List Ln) (hl : l.length ≤ 1000) : g_laws_eqLineS l l = some true := by
  have h' : w_laws_eqLineS_5 (m_laws_eqLineS_5 l l 0) = _ := eqLns_loop l hl l [] rfl
  rw [g_laws_eqLineS, t_laws_eqLineS, bne_self_eq_false, cond_false, h']; rfl

/-! all of them, or an error -/
/-- A line in its lowest form that fits the machine. -/
def fitL (l : Ln) : Prop := l.2.can ∧ l.2.2.2 ≤ 1000 ∧ I64 l.2.1 ∧ I64 l.2.2.1

def allL (l : List Ln) : List Ln × Int := cond (l.all fun x => okN x.2) (l, 0) ([], 2)

theorem spec_line {l : Ln} (h : fitL l) : g_spec_l23Line l = some (cond (okN l.2) (l, true) ((0, (0, (0, 0))), false)) := by
  rw [g_spec_l23Line, t_spec_l23Line, num_ok h.1 h.2.1 h.2.2.1 h.2.2.2, Option.bind_some]
  cases okN l.2 <;> rfl

theorem specAll_loop (l : List Ln) (hl : l.length ≤ 1000) (hf : ∀ x, x ∈ l → fitL x) : ∀ (r p : List Ln), l = p ++ r →
    (w_spec_l23All_4 (m_spec_l23All_4 l p ((p.length : Nat) : Int))).bind (exC x_spec_l23All_4 (fun e => some (((e.1.1.1 : List Ln), (e.1.2.1.1 : Int)) : List Ln × Int), fun e => some ((e.1.2.2.1.1 : List Ln), 0), ())) =
      some (cond (r.all fun x => okN x.2) (l, 0) ([], 2))
  | [], p, h => by
    rw [wq_spec_l23All_4, u_spec_l23All_4, lt_end h, cond_false]
    rw [List.append_nil] at h
    subst h; rfl
  | x :: r, p, h => by
    have hx := spec_line (hf x (by rw [h]; simp))
    have hlen : p.length + (r.length + 1) ≤ 1000 := by rw [h] at hl; simpa using hl
    rw [wq_spec_l23All_4, u_spec_l23All_4, lt_in h, cond_true, ix h]
    simp only [Option.bind_some, hx]
    rw [List.all_cons]
    cases hok : okN x.2
    · rfl
    · simp only [cond_true, Bool.not_true, cond_false, Bool.true_and, List.length_singleton]
      rw [dec_t (show (p.length + 1) * 32 ≤ 70368744177664 by omega), dec_t (show p.length + 1 ≤ 70368744177664 by omega), cond_true, cond_true, wr h (by omega)]
      exact specAll_loop l hl hf r (p ++ [x]) (nxt h)

theorem specAll (l : List Ln) (hl : l.length ≤ 1000) (hf : ∀ x, x ∈ l → fitL x) : g_spec_l23All l = some (allL l) := by
  have h := specAll_loop l hl hf l [] rfl
  rw [g_spec_l23All, t_spec_l23All]
  exact h

/-! sorted lines -/
theorem cmpInt (a b : Int) : g_cmp_Compare_int64 a b = some (if a < b then -1 else if a > b then 1 else 0) := by
  rw [g_cmp_Compare_int64, t_cmp_Compare_int64, g_cmp_isNaN_int64, t_cmp_isNaN_int64, g_cmp_isNaN_int64, t_cmp_isNaN_int64]
  simp only [bne_self_eq_false, Option.bind_some, cond_false]
  by_cases h : a < b
  · rw [dec_t h, cond_true, if_pos h]
  · rw [dec_f h, cond_false, if_neg h]
    by_cases h' : a > b
    · rw [dec_t h', cond_true, if_pos h']
    · rw [dec_f h', cond_false, if_neg h']

theorem cmpNum {x y : Nm} (hx : okN x = true) (hy : okN y = true) : ∃ c, g_impl_Num_compare x y = some c := by
  have bx := okN_bd hx
  have by' := okN_bd hy
  have s := sub_ok bx by' (by decide) (by decide) (by decide) (by decide) (by decide)
  obtain ⟨r, hr⟩ := implGreater_tot (subN x y).1 (subN x y).2.1
  rw [g_impl_Num_compare, t_impl_Num_compare, s.2, Option.bind_some, implSign_eq hr]
  exact ⟨_, rfl⟩

/-- Directions that differ settle it. -/
theorem cmpLn {x y : Ln} (hx : okN x.2 = true) (hy : okN y.2 = true) (hd : x.1 ≠ y.1) : g_impl_lineResults_2 x y = some (if x.1 < y.1 then -1 else 1) := by
  obtain ⟨c, hc⟩ := cmpNum hx hy
  rw [g_impl_lineResults_2, t_impl_lineResults_2, cmpInt, Option.bind_some, hc, Option.bind_some, g_cmp_Or_int, t_cmp_Or_int, wq_cmp_Or_int_4, u_cmp_Or_int_4]
  by_cases h : x.1 < y.1
  · simp only [if_pos h]; rfl
  · have h' : x.1 > y.1 := by omega
    simp only [if_neg h, if_pos h']; rfl

/-- Directions rise. -/
def rises : List Ln → Prop
  | [] => True
  | [_] => True
  | x :: y :: r => x.1 < y.1 ∧ rises (y :: r)

theorem rises_at : ∀ (l : List Ln) (i : Nat) (x y : Ln), rises l → l[i]? = some x → l[i + 1]? = some y → x.1 < y.1
  | [], i, x, y, _, h, _ => by simp at h
  | [a], i, x, y, _, _, h => by simp at h
  | a :: b :: r, 0, x, y, hr, h, h' => by
    simp at h h'
    subst h; subst h'
    exact hr.1
  | a :: b :: r, i + 1, x, y, hr, h, h' => rises_at (b :: r) i x y hr.2 (by simpa using h) (by simpa using h')

/-- Nothing moves. -/
theorem sort_still (l : List Ln) (hl : l.length ≤ 12) (hv : ∀ x, x ∈ l → okN x.2 = true) (hr : rises l) : ∀ (n i : Nat), i + n = l.length → 1 ≤ i →
    w_slices_insertionSortCmpFunc_impl_Line__impl_lineResults_2_2 (m_slices_insertionSortCmpFunc_impl_Line__impl_lineResults_2_2 l 0 ((l.length : Nat) : Int) ((i : Nat) : Int) l) =
      some (.inl (d_slices_insertionSortCmpFunc_impl_Line__impl_lineResults_2_2_0 l))
  | 0, i, h, hi => by
    rw [wq_slices_insertionSortCmpFunc_impl_Line__impl_lineResults_2_2, u_slices_insertionSortCmpFunc_impl_Line__impl_lineResults_2_2, dec_f (by omega), cond_false]; rfl
  | n + 1, i, h, hi => by
    have IH := sort_still l hl hv hr n (i + 1) (by omega) (by omega)
    have hx : l[i]? = some l[i] := List.getElem?_eq_getElem (by omega)
    have hy : l[i - 1]? = some l[i - 1] := List.getElem?_eq_getElem (by omega)
    have hlt := rises_at l (i - 1) l[i - 1] l[i] hr hy (by rw [show i - 1 + 1 = i by omega]; exact hx)
    rw [wq_slices_insertionSortCmpFunc_impl_Line__impl_lineResults_2_2, u_slices_insertionSortCmpFunc_impl_Line__impl_lineResults_2_2, dec_t (by omega), cond_true,
      wq_slices_insertionSortCmpFunc_impl_Line__impl_lineResults_2_5, u_slices_insertionSortCmpFunc_impl_Line__impl_lineResults_2_5, dec_t (by omega), cond_true, idx_nat, hx, Option.bind_some,
      wrap_id (n := ((i : Nat) : Int) - 1) (by omega) (by omega), show ((i : Nat) : Int) - 1 = ((i - 1 : Nat) : Int) by omega, idx_nat, hy, Option.bind_some,
      cmpLn (hv _ (List.mem_of_getElem? hx)) (hv _ (List.mem_of_getElem? hy)) (by omega), Option.bind_some, if_neg (by omega)]
    show (some _).bind _ = _
    rw [Option.bind_some]
    show w_slices_insertionSortCmpFunc_impl_Line__impl_lineResults_2_2 (m_slices_insertionSortCmpFunc_impl_Line__impl_lineResults_2_2 l 0 ((l.length : Nat) : Int) (IntKind.wrap .i64 (((i : Nat) : Int) + 1)) l) = _
    rw [wrap_id (n := ((i : Nat) : Int) + 1) (by omega) (by omega)]
    exact IH

theorem len_tab {n : Int} (h0 : 0 ≤ n) (h1 : n ≤ 12) : ∃ y, g_math_bits_Len (IntKind.wrap .u64 n) = some y := by
  have : n = 0 ∨ n = 1 ∨ n = 2 ∨ n = 3 ∨ n = 4 ∨ n = 5 ∨ n = 6 ∨ n = 7 ∨ n = 8 ∨ n = 9 ∨ n = 10 ∨ n = 11 ∨ n = 12 := by omega
  rcases this with rfl | rfl | rfl | rfl | rfl | rfl | rfl | rfl | rfl | rfl | rfl | rfl | rfl
  · exact ⟨0, by kernel_rfl⟩
  · exact ⟨1, by kernel_rfl⟩
  · exact ⟨2, by kernel_rfl⟩
  · exact ⟨2, by kernel_rfl⟩
  · exact ⟨3, by kernel_rfl⟩
  · exact ⟨3, by kernel_rfl⟩
  · exact ⟨3, by kernel_rfl⟩
  · exact ⟨3, by kernel_rfl⟩
  · exact ⟨4, by kernel_rfl⟩
  · exact ⟨4, by kernel_rfl⟩
  · exact ⟨4, by kernel_rfl⟩
  · exact ⟨4, by kernel_rfl⟩
  · exact ⟨4, by kernel_rfl⟩

theorem sorted (l s : List Ln) (hl : l.length ≤ 12)
    (h : w_slices_insertionSortCmpFunc_impl_Line__impl_lineResults_2_2 (m_slices_insertionSortCmpFunc_impl_Line__impl_lineResults_2_2 l 0 ((l.length : Nat) : Int) 1 l) = some (.inl (d_slices_insertionSortCmpFunc_impl_Line__impl_lineResults_2_2_0 s))) :
    g_slices_SortFunc_Simpl_Line_impl_Line__impl_lineResults_2 l = some s := by
  obtain ⟨y, hy⟩ := len_tab (n := ((l.length : Nat) : Int)) (by omega) (by omega)
  have hi : g_slices_insertionSortCmpFunc_impl_Line__impl_lineResults_2 l 0 ((l.length : Nat) : Int) = some s := by
    rw [g_slices_insertionSortCmpFunc_impl_Line__impl_lineResults_2, t_slices_insertionSortCmpFunc_impl_Line__impl_lineResults_2, wrap_id (n := (0 : Int) + 1) (by decide) (by decide)]
    have h' : w_slices_insertionSortCmpFunc_impl_Line__impl_lineResults_2_2 (m_slices_insertionSortCmpFunc_impl_Line__impl_lineResults_2_2 l 0 ((l.length : Nat) : Int) (0 + 1) l) = _ := h
    rw [h']; rfl
  rw [g_slices_SortFunc_Simpl_Line_impl_Line__impl_lineResults_2, t_slices_SortFunc_Simpl_Line_impl_Line__impl_lineResults_2, hy, Option.bind_some]
  simp only [decide_true, cond_true]
  rw [g_slices_pdqsortCmpFunc_impl_Line__impl_lineResults_2, t_slices_pdqsortCmpFunc_impl_Line__impl_lineResults_2, wq_slices_pdqsortCmpFunc_impl_Line__impl_lineResults_2_3, u_slices_pdqsortCmpFunc_impl_Line__impl_lineResults_2_3,
    wrap_id (n := ((l.length : Nat) : Int) - 0) (by omega) (by omega), dec_t (by omega), hi]
  simp only [decide_true, cond_true, Option.bind_some]
  rfl

theorem containsBad (l : List Ln) (hl : l.length ≤ 1000) : g_slices_ContainsFunc_Simpl_Line_impl_Line__impl_lineResults_1 l = some (!(l.all fun x => okL x)) := by
  have loop : ∀ (r p : List Ln), l = p ++ r → (w_slices_IndexFunc_Simpl_Line_impl_Line__impl_lineResults_1_3 (m_slices_IndexFunc_Simpl_Line_impl_Line__impl_lineResults_1_3 l ((l.length : Nat) : Int) ((p.length : Nat) : Int))).bind
      (exC x_slices_IndexFunc_Simpl_Line_impl_Line__impl_lineResults_1_3 (fun e => some (decide ((e.1.1.1 : Int) ≥ 0)), fun _ => some (decide ((-1 : Int) ≥ 0)), ())) = some (!(r.all fun x => okL x)) := by
    intro r
    induction r with
    | nil =>
      intro p h
      rw [wq_slices_IndexFunc_Simpl_Line_impl_Line__impl_lineResults_1_3, u_slices_IndexFunc_Simpl_Line_impl_Line__impl_lineResults_1_3, lt_end h, cond_false]; rfl
    | cons x r ih =>
      intro p h
      rw [wq_slices_IndexFunc_Simpl_Line_impl_Line__impl_lineResults_1_3, u_slices_IndexFunc_Simpl_Line_impl_Line__impl_lineResults_1_3, lt_in h, cond_true, ix h, Option.bind_some, g_impl_lineResults_1, t_impl_lineResults_1, impl_okL,
        Option.bind_some, Option.bind_some, List.all_cons]
      cases okL x
      · show some (decide (((p.length : Nat) : Int) ≥ 0)) = _
        rw [dec_t (by omega)]; rfl
      · simp only [Bool.not_true, cond_false, Bool.true_and]
        rw [wr h (by omega)]
        exact ih (p ++ [x]) (nxt h)
  have h := loop l [] rfl
  rw [g_slices_ContainsFunc_Simpl_Line_impl_Line__impl_lineResults_1, t_slices_ContainsFunc_Simpl_Line_impl_Line__impl_lineResults_1, g_slices_IndexFunc_Simpl_Line_impl_Line__impl_lineResults_1, t_slices_IndexFunc_Simpl_Line_impl_Line__impl_lineResults_1]
  refine Eq.trans ?_ h
  cases w_slices_IndexFunc_Simpl_Line_impl_Line__impl_lineResults_1_3 (m_slices_IndexFunc_Simpl_Line_impl_Line__impl_lineResults_1_3 l ((l.length : Nat) : Int) 0) with
  | none => rfl
  | some z =>
    match z with
    | .inl z => rfl
    | .inr (.inl z) => rfl

/-- What is given of lines whose directions rise. -/
theorem results_rise (l : List Ln) (hl : l.length ≤ 12) (hd : ∀ x, x ∈ l → 0 ≤ x.1 ∧ x.1 ≤ 7) (hr : rises l) : g_impl_lineResults l = some (allL l) := by
  have e : (l.all fun x => okL x) = (l.all fun x => okN x.2) := by
    rw [Bool.eq_iff_iff, List.all_eq_true, List.all_eq_true]
    constructor
    · intro h x hx
      have := h x hx
      simp only [okL, Bool.and_eq_true] at this
      exact this.2
    · intro h x hx
      have := hd x hx
      simp only [okL, Bool.and_eq_true, decide_eq_true_eq]
      exact ⟨⟨this.1, this.2⟩, h x hx⟩
  rw [g_impl_lineResults, t_impl_lineResults, containsBad l (by omega), Option.bind_some, e]
  unfold allL
  cases hv : l.all fun x => okN x.2
  · rfl
  · simp only [Bool.not_true, cond_false, decide_true, cond_true]
    have hv' : ∀ x, x ∈ l → okN x.2 = true := fun x hx => List.all_eq_true.1 hv x hx
    rw [sorted l l hl ?_]
    · rfl
    · cases hc : l.length with
      | zero =>
        have : l = [] := List.length_eq_zero_iff.1 hc
        subst this
        rw [wq_slices_insertionSortCmpFunc_impl_Line__impl_lineResults_2_2, u_slices_insertionSortCmpFunc_impl_Line__impl_lineResults_2_2, dec_f (by decide), cond_false]; rfl
      | succ n =>
        have := sort_still l hl hv' hr n 1 (by omega) (by omega)
        rw [hc] at this
        exact this

/-- Two in the other order. -/
theorem results_swap (x y : Ln) (hx : 0 ≤ x.1 ∧ x.1 ≤ 7) (hy : 0 ≤ y.1 ∧ y.1 ≤ 7) (h : y.1 < x.1) : g_impl_lineResults [x, y] = some (allL [y, x]) := by
  have e : ([x, y].all fun x => okL x) = ([y, x].all fun x => okN x.2) := by
    simp only [List.all_cons, List.all_nil, Bool.and_true, okL, dec_t hx.1, dec_t hx.2, dec_t hy.1, dec_t hy.2, Bool.true_and, Bool.and_self]
    exact Bool.and_comm _ _
  rw [g_impl_lineResults, t_impl_lineResults, containsBad [x, y] (by simp), Option.bind_some, e]
  unfold allL
  cases hv : [y, x].all fun x => okN x.2
  · rfl
  · simp only [Bool.not_true, cond_false, decide_true, cond_true]
    have hv' : ∀ z, z ∈ [y, x] → okN z.2 = true := fun z hz => List.all_eq_true.1 hv z hz
    have hvx := hv' x (by simp)
    have hvy := hv' y (by simp)
    rw [sorted [x, y] [y, x] (by simp) ?_]
    · rfl
    · rw [wq_slices_insertionSortCmpFunc_impl_Line__impl_lineResults_2_2, u_slices_insertionSortCmpFunc_impl_Line__impl_lineResults_2_2, dec_t (by simp), cond_true,
        wq_slices_insertionSortCmpFunc_impl_Line__impl_lineResults_2_5, u_slices_insertionSortCmpFunc_impl_Line__impl_lineResults_2_5, dec_t (by decide), cond_true,
        show idx [x, y] (1 : Int) = some y from rfl, Option.bind_some, wrap_id (n := (1 : Int) - 1) (by decide) (by decide), show idx [x, y] ((1 : Int) - 1) = some x from rfl, Option.bind_some,
        cmpLn hvy hvx (by omega), Option.bind_some, if_pos h, dec_t (by decide), cond_true, Option.bind_some, Option.bind_some, Option.bind_some,
        show idx (List.set [x, y] (0 + Int.toNat 1) x) ((1 : Int) - 1) = some x from rfl, Option.bind_some,
        wq_slices_insertionSortCmpFunc_impl_Line__impl_lineResults_2_5, u_slices_insertionSortCmpFunc_impl_Line__impl_lineResults_2_5, dec_f (by decide), cond_false]
      show (some _).bind _ = _
      rw [Option.bind_some]
      show w_slices_insertionSortCmpFunc_impl_Line__impl_lineResults_2_2 (m_slices_insertionSortCmpFunc_impl_Line__impl_lineResults_2_2 [y, x] 0 2 (IntKind.wrap .i64 (1 + 1)) [y, x]) = _
      rw [wrap_id (n := (1 : Int) + 1) (by decide) (by decide), wq_slices_insertionSortCmpFunc_impl_Line__impl_lineResults_2_2, u_slices_insertionSortCmpFunc_impl_Line__impl_lineResults_2_2, dec_f (by decide), cond_false]; rfl

theorem allL_length (l : List Ln) (h : l.length ≤ 12) : (allL l).1.length ≤ 1000 := by
  unfold allL
  cases l.all fun x => okN x.2
  · exact Nat.zero_le _
  · exact Nat.le_trans h (by decide)

end Go.Proofs.YtooaomcmhgpbpaaDoor
