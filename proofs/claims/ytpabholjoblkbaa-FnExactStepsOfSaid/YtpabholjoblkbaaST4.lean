/- Steps. No conditions. -/
import Derived.Test.YtpabholjoblkbaaST3
namespace Go.Proofs.Ytpabholjoblkbaa
open Go.Vai
/-! is a step possible? -/
abbrev Sp := Int × Int
abbrev Str := List Int × List Int

theorem len_ok (l : List Int) : g_impl_length_int64 l = some ((l.length : Nat) : Int) := by
  rw [g_impl_length_int64, t_impl_length_int64]
  try rw [wrap_len]

theorem can_eq (a : Str) (x : Sp) : g_impl_Strip_isPossible a x = g_spec_l25Can a x := by
  rw [g_impl_Strip_isPossible, t_impl_Strip_isPossible, g_spec_l25Can, t_spec_l25Can, len_ok]
  simp only [Option.bind_some, hwI, hwS]

theorem idx_in (l : List Int) {i : Int} (h0 : 0 ≤ i) (h1 : i < l.length) : ∃ x, idx l i = some x := by
  unfold idx
  rw [if_pos h0]
  exact ⟨_, List.getElem?_eq_getElem (by omega)⟩

theorem okS_len {a : Str} (h : okS a = true) : 1 ≤ (a.1.length : Int) ∧ (a.1.length : Int) ≤ 14 ∧ (a.2.length : Int) = (a.1.length : Int) - 1 := by
  simp only [okS, szs, Bool.and_eq_true, decide_eq_true_eq] at h
  exact ⟨h.1.1.1, h.1.1.2, h.2.1⟩

theorem can_tot {a : Str} (h : okS a = true) (x : Sp) : ∃ c, g_spec_l25Can a x = some c := by
  obtain ⟨h1, h2, h3⟩ := okS_len h
  rw [g_spec_l25Can, t_spec_l25Can]
  by_cases hn : (a.1.length : Int) < 2
  · rw [dec_t hn]; exact ⟨_, rfl⟩
  · rw [dec_f hn, cond_false, wrap_id (n := (a.1.length : Int) - 1) (by omega) (by omega), wrap_id (n := (a.1.length : Int) - 2) (by omega) (by omega)]
    cases x.1 == 2
    · rw [cond_false]
      cases x.1 == 3
      · rw [cond_false]
        cases x.1 == 1
        · exact ⟨_, rfl⟩
        · rw [cond_true, hwS, Option.bind_some]
          cases hw : (decide (x.2 ≥ 1) && decide (x.2 ≤ (a.1.length : Int) - 2))
          · exact ⟨_, rfl⟩
          · simp only [Bool.and_eq_true, decide_eq_true_eq] at hw
            obtain ⟨y1, e1⟩ := idx_in a.1 (i := x.2) (by omega) (by omega)
            obtain ⟨y2, e2⟩ := idx_in a.1 (i := x.2 - 1) (by omega) (by omega)
            obtain ⟨y3, e3⟩ := idx_in a.1 (i := x.2 + 1) (by omega) (by omega)
            obtain ⟨y4, e4⟩ := idx_in a.2 (i := x.2 - 1) (by omega) (by omega)
            obtain ⟨y5, e5⟩ := idx_in a.2 (i := x.2) (by omega) (by omega)
            rw [cond_true, wrap_id (n := x.2 - 1) (by omega) (by omega), wrap_id (n := x.2 + 1) (by omega) (by omega), e1, e2, e3, e4, e5]
            simp only [Option.bind_some]
            cases decide (y1 ≤ y2)
            · exact ⟨_, rfl⟩
            · cases decide (y1 ≤ y3) <;> exact ⟨_, rfl⟩
      · rw [cond_true]
        cases x.2 == (a.1.length : Int) - 1
        · exact ⟨_, rfl⟩
        · obtain ⟨y1, e1⟩ := idx_in a.1 (i := (a.1.length : Int) - 1) (by omega) (by omega)
          obtain ⟨y2, e2⟩ := idx_in a.1 (i := (a.1.length : Int) - 2) (by omega) (by omega)
          rw [cond_true, e1, e2]; exact ⟨_, rfl⟩
    · rw [cond_true]
      cases x.2 == 0
      · exact ⟨_, rfl⟩
      · obtain ⟨y1, e1⟩ := idx_in a.1 (i := 0) (by omega) (by omega)
        obtain ⟨y2, e2⟩ := idx_in a.1 (i := 1) (by omega) (by omega)
        rw [cond_true, e1, e2]; exact ⟨_, rfl⟩

noncomputable def canB (a : Str) (x : Sp) : Bool := (g_spec_l25Can a x).getD false
theorem can_ok {a : Str} (h : okS a = true) (x : Sp) : g_spec_l25Can a x = some (canB a x) := by
  obtain ⟨c, hc⟩ := can_tot h x
  unfold canB
  rw [hc]; rfl

/-! all steps -/
def mids : Nat → Int → List Sp
  | 0, _ => []
  | n + 1, i => (1, i) :: mids n (i + 1)
theorem mids_length : ∀ (n : Nat) (i : Int), (mids n i).length = n
  | 0, _ => rfl
  | n + 1, i => by simp [mids, mids_length n]

def stepL (a : Str) : List Sp := ((2, 0) :: mids (a.1.length - 2) 1) ++ [(3, (a.1.length : Int) - 1)]
theorem stepL_length (a : Str) : (stepL a).length = a.1.length - 2 + 2 := by simp [stepL, mids_length]

theorem specMids {a : Str} (h : okS a = true) : ∀ (m : Nat) (i : Int) (acc : List Sp), 1 ≤ i → i + m = (a.1.length : Int) - 1 ∨ (m = 0 ∧ (a.1.length : Int) - 1 ≤ i) → acc.length ≤ 100 - m → m ≤ 20 →
    w_spec_l25Steps_6 (m_spec_l25Steps_6 [] ((a.1.length : Nat) : Int) acc i a.1 a.2) = some (.inl (d_spec_l25Steps_6_0 [] ((a.1.length : Nat) : Int) (acc ++ mids m i) a.1 a.2))
  | 0, i, acc, h0, h1, ha, hm => by
    obtain ⟨k1, k2, k3⟩ := okS_len h
    rw [wq_spec_l25Steps_6, u_spec_l25Steps_6, wrap_id (n := (a.1.length : Int) - 1) (by omega) (by omega), dec_f (by omega), cond_false]
    simp only [mids, List.append_nil]; rfl
  | m + 1, i, acc, h0, h1, ha, hm => by
    obtain ⟨k1, k2, k3⟩ := okS_len h
    rw [wq_spec_l25Steps_6, u_spec_l25Steps_6, wrap_id (n := (a.1.length : Int) - 1) (by omega) (by omega), dec_t (by omega), cond_true]
    simp only [List.length_singleton]
    rw [dec_t (by omega), dec_t (by omega), cond_true, cond_true, wrap_id (n := i + 1) (by omega) (by omega)]
    refine (specMids h m (i + 1) (acc ++ [(1, i)]) (by omega) (by omega) (by simp; omega) (by omega)).trans ?_
    simp only [mids, List.append_assoc, List.singleton_append]

theorem implMids {a : Str} (h : okS a = true) : ∀ (m : Nat) (i : Int) (acc : List Sp), 1 ≤ i → i + m = (a.1.length : Int) - 1 ∨ (m = 0 ∧ (a.1.length : Int) - 1 ≤ i) → acc.length ≤ 100 - m → m ≤ 20 →
    w_impl_Strip_steps_5 (m_impl_Strip_steps_5 ((a.1.length : Nat) : Int) acc i a.1 a.2) = some (.inl (d_impl_Strip_steps_5_0 ((a.1.length : Nat) : Int) (acc ++ mids m i) a.1 a.2))
  | 0, i, acc, h0, h1, ha, hm => by
    obtain ⟨k1, k2, k3⟩ := okS_len h
    rw [wq_impl_Strip_steps_5, u_impl_Strip_steps_5, wrap_id (n := (a.1.length : Int) - 2) (by omega) (by omega), dec_f (by omega), cond_false]
    simp only [mids, List.append_nil]; rfl
  | m + 1, i, acc, h0, h1, ha, hm => by
    obtain ⟨k1, k2, k3⟩ := okS_len h
    rw [wq_impl_Strip_steps_5, u_impl_Strip_steps_5, wrap_id (n := (a.1.length : Int) - 2) (by omega) (by omega), dec_t (by omega), cond_true]
    simp only [List.length_singleton]
    rw [dec_t (by omega), dec_t (by omega), cond_true, cond_true, wrap_id (n := i + 1) (by omega) (by omega)]
    refine (implMids h m (i + 1) (acc ++ [(1, i)]) (by omega) (by omega) (by simp; omega) (by omega)).trans ?_
    simp only [mids, List.append_assoc, List.singleton_append]

theorem specFilter {a : Str} (h : okS a = true) (l : List Sp) (hl : l.length ≤ 100) : ∀ (r p acc : List Sp), l = p ++ r → acc.length ≤ p.length →
    w_spec_l25Steps_11 (m_spec_l25Steps_11 acc l ((p.length : Nat) : Int) a.1 a.2) = some (.inl (d_spec_l25Steps_11_0 (acc ++ r.filter (canB a))))
  | [], p, acc, hp, ha => by
    rw [wq_spec_l25Steps_11, u_spec_l25Steps_11, lt_end hp, cond_false]
    simp only [List.filter_nil, List.append_nil]; rfl
  | x :: r, p, acc, hp, ha => by
    have hlen := len_in hp
    rw [wq_spec_l25Steps_11, u_spec_l25Steps_11, lt_in hp, cond_true, ix hp]
    simp only [Option.bind_some]
    rw [can_ok h, Option.bind_some, wr hp (by omega), List.filter_cons]
    cases hc : canB a x
    · exact specFilter h l hl r (p ++ [x]) acc (nxt hp) (by simp; omega)
    · simp only [cond_true, List.length_singleton, if_true]
      rw [dec_t (by omega), dec_t (by omega), cond_true, cond_true]
      refine (specFilter h l hl r (p ++ [x]) (acc ++ [x]) (nxt hp) (by simp; omega)).trans ?_
      simp only [List.append_assoc, List.singleton_append]

theorem specSteps {a : Str} (h : okS a = true) : g_spec_l25Steps a = some ((stepL a).filter (canB a)) := by
  obtain ⟨k1, k2, k3⟩ := okS_len h
  have h1 := specMids h (a.1.length - 2) 1 [(2, 0)] (by decide) (by omega) (by simp; omega) (by omega)
  have hl := stepL_length a
  have h2 := specFilter h (stepL a) (by omega) (stepL a) [] [] rfl (Nat.le_refl _)
  rw [g_spec_l25Steps, t_spec_l25Steps, h1]
  show cond (decide ((([((2 : Int), (0 : Int))] ++ mids (a.1.length - 2) 1).length + [((3 : Int), IntKind.wrap .i64 (((a.1.length : Nat) : Int) - 1))].length) * 16 ≤ 70368744177664)) (cond (decide (([((2 : Int), (0 : Int))] ++ mids (a.1.length - 2) 1).length + [((3 : Int), IntKind.wrap .i64 (((a.1.length : Nat) : Int) - 1))].length ≤ 70368744177664)) (Option.bind (w_spec_l25Steps_11 (m_spec_l25Steps_11 [] (([((2 : Int), (0 : Int))] ++ mids (a.1.length - 2) 1) ++ [((3 : Int), IntKind.wrap .i64 (((a.1.length : Nat) : Int) - 1))]) 0 a.1 a.2)) _) none) none = _
  rw [wrap_id (n := ((a.1.length : Nat) : Int) - 1) (by omega) (by omega)]
  have e : ([((2 : Int), (0 : Int))] ++ mids (a.1.length - 2) 1) ++ [((3 : Int), ((a.1.length : Nat) : Int) - 1)] = stepL a := rfl
  have el : ([((2 : Int), (0 : Int))] ++ mids (a.1.length - 2) 1).length + [((3 : Int), ((a.1.length : Nat) : Int) - 1)].length = (stepL a).length := by rw [← e]; simp only [List.length_append]
  rw [el, e, dec_t (by omega), dec_t (by omega), cond_true, cond_true]
  have h2' : w_spec_l25Steps_11 (m_spec_l25Steps_11 [] (stepL a) 0 a.1 a.2) = _ := h2
  rw [h2']; rfl

/-! deleting -/
theorem delF {a : Str} (h : okS a = true) (x : Sp) : g_impl_Strip_steps_1 x a = some (!canB a x) := by
  rw [g_impl_Strip_steps_1, t_impl_Strip_steps_1, can_eq, can_ok h]; rfl

theorem delIndex {a : Str} (h : okS a = true) (l : List Sp) (hl : l.length ≤ 100) : ∀ (r p : List Sp), l = p ++ r → p.filter (canB a) = p →
    (r.filter (canB a) = r ∧ w_slices_IndexFunc_Simpl_StripStep_impl_StripStep__impl_Strip_steps_1_3 (m_slices_IndexFunc_Simpl_StripStep_impl_StripStep__impl_Strip_steps_1_3 l ((l.length : Nat) : Int) ((p.length : Nat) : Int) a.1 a.2) = some (.inr (.inl d_slices_IndexFunc_Simpl_StripStep_impl_StripStep__impl_Strip_steps_1_3_1))) ∨
    (∃ q x s, l = q ++ x :: s ∧ q.filter (canB a) = q ∧ canB a x = false ∧ w_slices_IndexFunc_Simpl_StripStep_impl_StripStep__impl_Strip_steps_1_3 (m_slices_IndexFunc_Simpl_StripStep_impl_StripStep__impl_Strip_steps_1_3 l ((l.length : Nat) : Int) ((p.length : Nat) : Int) a.1 a.2) =
      some (.inl (d_slices_IndexFunc_Simpl_StripStep_impl_StripStep__impl_Strip_steps_1_3_0 ((q.length : Nat) : Int))))
  | [], p, hp, hf => by
    left
    rw [wq_slices_IndexFunc_Simpl_StripStep_impl_StripStep__impl_Strip_steps_1_3, u_slices_IndexFunc_Simpl_StripStep_impl_StripStep__impl_Strip_steps_1_3, lt_end hp, cond_false]
    exact ⟨rfl, rfl⟩
  | x :: r, p, hp, hf => by
    rw [wq_slices_IndexFunc_Simpl_StripStep_impl_StripStep__impl_Strip_steps_1_3, u_slices_IndexFunc_Simpl_StripStep_impl_StripStep__impl_Strip_steps_1_3, lt_in hp, cond_true, ix hp, Option.bind_some, delF h, Option.bind_some, wr hp (by omega)]
    cases hc : canB a x
    · right
      exact ⟨p, x, r, hp, hf, hc, rfl⟩
    · simp only [Bool.not_true, cond_false]
      rcases delIndex h l hl r (p ++ [x]) (nxt hp) (by simp [List.filter_append, hf, hc]) with ⟨h1, h2⟩ | h2
      · exact .inl ⟨by rw [List.filter_cons, hc, if_pos rfl, h1], h2⟩
      · exact .inr h2

theorem sm {α : Type} (q s : List α) (y v : α) : List.set (q ++ y :: s) (0 + Int.toNat ((q.length : Nat) : Int)) v = q ++ v :: s := by
  rw [set_mid rfl, List.append_assoc]; rfl
theorem im {α : Type} (q s : List α) (y : α) : idx (q ++ y :: s) ((q.length : Nat) : Int) = some y := ix rfl

theorem delLoop {a : Str} (h : okS a = true) : ∀ (r kept mid : List Sp) (m : Sp), kept.length + mid.length + 1 + r.length ≤ 100 →
    ∃ e : List Sp, w_slices_DeleteFunc_Simpl_StripStep_impl_StripStep__impl_Strip_steps_1_6 (m_slices_DeleteFunc_Simpl_StripStep_impl_StripStep__impl_Strip_steps_1_6 (kept ++ (m :: mid) ++ r) ((kept.length : Nat) : Int) (((kept ++ (m :: mid)).length : Nat) : Int) a.1 a.2 (kept ++ (m :: mid) ++ r)) =
      some (.inl (d_slices_DeleteFunc_Simpl_StripStep_impl_StripStep__impl_Strip_steps_1_6_0 (kept ++ r.filter (canB a) ++ e) (((kept ++ r.filter (canB a)).length : Nat) : Int) (kept ++ r.filter (canB a) ++ e))) ∧ e ≠ [] ∧ (kept ++ r.filter (canB a) ++ e).length ≤ 100
  | [], kept, mid, m, hl => by
    refine ⟨m :: mid, ?_, by simp, by simp at hl ⊢; omega⟩
    rw [wq_slices_DeleteFunc_Simpl_StripStep_impl_StripStep__impl_Strip_steps_1_6, u_slices_DeleteFunc_Simpl_StripStep_impl_StripStep__impl_Strip_steps_1_6, lt_end rfl, cond_false]
    simp only [List.filter_nil, List.append_nil]; rfl
  | x :: r, kept, mid, m, hl => by
    simp only [List.length_cons] at hl
    have hlen : (kept ++ (m :: mid) ++ x :: r).length ≤ 100 := by simp; omega
    rw [wq_slices_DeleteFunc_Simpl_StripStep_impl_StripStep__impl_Strip_steps_1_6, u_slices_DeleteFunc_Simpl_StripStep_impl_StripStep__impl_Strip_steps_1_6, lt_in (rfl : kept ++ (m :: mid) ++ x :: r = kept ++ (m :: mid) ++ x :: r), cond_true, ix (rfl : kept ++ (m :: mid) ++ x :: r = kept ++ (m :: mid) ++ x :: r), Option.bind_some, delF h, Option.bind_some, wr (rfl : kept ++ (m :: mid) ++ x :: r = kept ++ (m :: mid) ++ x :: r) (by omega), List.filter_cons]
    cases hc : canB a x
    · simp only [Bool.not_false, Bool.not_true, cond_false, if_false, Bool.false_eq_true]
      obtain ⟨e, h1, h2⟩ := delLoop h r kept (mid ++ [x]) m (by simp; omega)
      refine ⟨e, ?_, h2⟩
      rw [← h1]
      simp only [List.append_assoc, List.cons_append, List.singleton_append, List.nil_append]
    · simp only [Bool.not_true, Bool.not_false, cond_true, if_true]
      have e1 : kept ++ (m :: mid) ++ x :: r = kept ++ m :: (mid ++ x :: r) := by simp
      rw [e1, im, Option.bind_some, sm]
      have hw : IntKind.wrap .i64 (((kept.length : Nat) : Int) + 1) = (((kept ++ [x]).length : Nat) : Int) := by
        rw [wrap_id (by omega) (by omega)]; simp
      rw [hw]
      cases mid with
      | nil =>
        obtain ⟨e, h1, h2, h3⟩ := delLoop h r (kept ++ [x]) [] x (by simp at hl ⊢; omega)
        refine ⟨e, ?_, h2, by simpa using h3⟩
        have e2 : kept ++ x :: r = kept ++ [x] ++ r := by simp
        simp only [List.append_assoc, List.cons_append, List.nil_append, List.singleton_append] at h1 ⊢
        have hn : (((kept ++ [m, x]).length : Nat) : Int) = (((kept ++ [x, x]).length : Nat) : Int) := by simp
        rw [hn]
        exact h1
      | cons m' mid' =>
        obtain ⟨e, h1, h2, h3⟩ := delLoop h r (kept ++ [x]) (mid' ++ [x]) m' (by simp at hl ⊢; omega)
        refine ⟨e, ?_, h2, by simpa using h3⟩
        simp only [List.append_assoc, List.cons_append, List.nil_append, List.singleton_append] at h1 ⊢
        have hn : (((kept ++ m :: m' :: (mid' ++ [x])).length : Nat) : Int) = (((kept ++ x :: m' :: (mid' ++ [x])).length : Nat) : Int) := by simp
        rw [hn]
        exact h1

theorem overL_len {α : Type} (k lo : Nat) (ys l : List α) : (overL k lo ys l).length = l.length := by simp [overL]
theorem overL_take {α : Type} (lo : Nat) (ys l : List α) : (overL 0 lo ys l).take lo = l.take lo := by
  apply List.ext_getElem?
  intro i
  rw [List.getElem?_take, List.getElem?_take]
  by_cases h : i < lo
  · rw [if_pos h, if_pos h]
    simp only [overL, List.getElem?_mapIdx, Nat.zero_add]
    cases l[i]? with
    | none => rfl
    | some x => simp only [Option.map_some, overE, if_neg (show ¬ lo ≤ i by omega)]
  · rw [if_neg h, if_neg h]

theorem delSteps {a : Str} (h : okS a = true) (l : List Sp) (hl : l.length ≤ 99) : g_slices_DeleteFunc_Simpl_StripStep_impl_StripStep__impl_Strip_steps_1 l a = some (l.filter (canB a)) := by
  rw [g_slices_DeleteFunc_Simpl_StripStep_impl_StripStep__impl_Strip_steps_1, t_slices_DeleteFunc_Simpl_StripStep_impl_StripStep__impl_Strip_steps_1, g_slices_IndexFunc_Simpl_StripStep_impl_StripStep__impl_Strip_steps_1, t_slices_IndexFunc_Simpl_StripStep_impl_StripStep__impl_Strip_steps_1]
  rcases delIndex h l (by omega) l [] rfl rfl with ⟨h1, h2⟩ | ⟨q, x, s, h1, h2, h3, h4⟩
  · have h2' : w_slices_IndexFunc_Simpl_StripStep_impl_StripStep__impl_Strip_steps_1_3 (m_slices_IndexFunc_Simpl_StripStep_impl_StripStep__impl_Strip_steps_1_3 l ((l.length : Nat) : Int) 0 a.1 a.2) = _ := h2
    rw [h2', h1]; rfl
  · have h4' : w_slices_IndexFunc_Simpl_StripStep_impl_StripStep__impl_Strip_steps_1_3 (m_slices_IndexFunc_Simpl_StripStep_impl_StripStep__impl_Strip_steps_1_3 l ((l.length : Nat) : Int) 0 a.1 a.2) = _ := h4
    rw [h4']
    have hlen : q.length + (s.length + 1) ≤ 99 := by rw [h1] at hl; simpa using hl
    obtain ⟨e, k1, k2, k3⟩ := delLoop h s q [] x (by simp; omega)
    have hq : (q ++ [x]) ++ s = l := by rw [h1]; simp
    rw [hq] at k1
    have hres : q ++ s.filter (canB a) = l.filter (canB a) := by
      rw [h1, List.filter_append, List.filter_cons, h3, h2]; simp
    rw [hres] at k1 k3
    show cond ((((q.length : Nat) : Int)) == (-1)) (some l) (Option.bind (w_slices_DeleteFunc_Simpl_StripStep_impl_StripStep__impl_Strip_steps_1_6 (m_slices_DeleteFunc_Simpl_StripStep_impl_StripStep__impl_Strip_steps_1_6 l ((q.length : Nat) : Int) (IntKind.wrap .i64 (((q.length : Nat) : Int) + 1)) a.1 a.2 l)) _) = _
    have hw : IntKind.wrap .i64 (((q.length : Nat) : Int) + 1) = (((q ++ [x]).length : Nat) : Int) := by
      rw [wrap_id (by omega) (by omega)]; simp
    rw [show ((((q.length : Nat) : Int)) == (-1)) = false from (by rw [beq_eq_false_iff_ne]; omega), cond_false, hw, k1]
    have hpos : 0 < (l.filter (canB a) ++ e).length := by
      cases e with
      | nil => exact absurd rfl k2
      | cons y e => simp only [List.length_append, List.length_cons]; omega
    have hle : (l.filter (canB a)).length ≤ (l.filter (canB a) ++ e).length := by simp
    generalize hF : l.filter (canB a) = F at *
    generalize hX : F ++ e = X at *
    show cond (decide (0 < X.length)) (cond (decide ((0 : Int) ≤ ((F.length : Nat) : Int))) (cond (decide (((F.length : Nat) : Int) ≤ ((X.length : Nat) : Int))) (cond (decide (0 < (overL 0 (0 + Int.toNat ((F.length : Nat) : Int)) (List.replicate (List.drop (Int.toNat ((F.length : Nat) : Int)) (List.take X.length X)).length ((0 : Int), (0 : Int))) X).length)) (cond (decide ((0 : Int) ≤ ((F.length : Nat) : Int))) (cond (decide (((F.length : Nat) : Int) ≤ (((overL 0 (0 + Int.toNat ((F.length : Nat) : Int)) (List.replicate (List.drop (Int.toNat ((F.length : Nat) : Int)) (List.take X.length X)).length ((0 : Int), (0 : Int))) X).length : Nat) : Int))) (some (List.drop 0 (List.take (Int.toNat ((F.length : Nat) : Int)) (overL 0 (0 + Int.toNat ((F.length : Nat) : Int)) (List.replicate (List.drop (Int.toNat ((F.length : Nat) : Int)) (List.take X.length X)).length ((0 : Int), (0 : Int))) X)))) none) none) none) none) none) none = _
    rw [overL_len, dec_t hpos, dec_t (by omega), dec_t (by omega)]
    simp only [cond_true, Int.toNat_natCast, Nat.zero_add, List.drop_zero]
    rw [overL_take, ← hX, List.take_left']
    rfl

theorem implSteps {a : Str} (h : okS a = true) : g_impl_Strip_steps a = some ((stepL a).filter (canB a)) := by
  obtain ⟨k1, k2, k3⟩ := okS_len h
  have h1 := implMids h (a.1.length - 2) 1 [(2, 0)] (by decide) (by omega) (by simp; omega) (by omega)
  have hl := stepL_length a
  have h2 := delSteps h (stepL a) (by omega)
  rw [g_impl_Strip_steps, t_impl_Strip_steps, len_ok, Option.bind_some, h1]
  have e : ([((2 : Int), (0 : Int))] ++ mids (a.1.length - 2) 1) ++ [((3 : Int), ((a.1.length : Nat) : Int) - 1)] = stepL a := rfl
  have el : ([((2 : Int), (0 : Int))] ++ mids (a.1.length - 2) 1).length + [((3 : Int), ((a.1.length : Nat) : Int) - 1)].length = (stepL a).length := by rw [← e]; simp only [List.length_append]
  show cond (decide ((([((2 : Int), (0 : Int))] ++ mids (a.1.length - 2) 1).length + [((3 : Int), IntKind.wrap .i64 (((a.1.length : Nat) : Int) - 1))].length) * 16 ≤ 70368744177664)) (cond (decide (([((2 : Int), (0 : Int))] ++ mids (a.1.length - 2) 1).length + [((3 : Int), IntKind.wrap .i64 (((a.1.length : Nat) : Int) - 1))].length ≤ 70368744177664)) (cond (decide ((([((2 : Int), (0 : Int))] ++ mids (a.1.length - 2) 1) ++ [((3 : Int), IntKind.wrap .i64 (((a.1.length : Nat) : Int) - 1))]).length = (([((2 : Int), (0 : Int))] ++ mids (a.1.length - 2) 1) ++ [((3 : Int), IntKind.wrap .i64 (((a.1.length : Nat) : Int) - 1))]).length)) (Option.bind (g_slices_DeleteFunc_Simpl_StripStep_impl_StripStep__impl_Strip_steps_1 (([((2 : Int), (0 : Int))] ++ mids (a.1.length - 2) 1) ++ [((3 : Int), IntKind.wrap .i64 (((a.1.length : Nat) : Int) - 1))]) (a.1, a.2)) _) none) none) none = _
  rw [wrap_id (n := ((a.1.length : Nat) : Int) - 1) (by omega) (by omega), el, e, dec_t (by omega), dec_t (by omega), dec_t rfl, cond_true, cond_true, cond_true]
  have h2' : g_slices_DeleteFunc_Simpl_StripStep_impl_StripStep__impl_Strip_steps_1 (stepL a) (a.1, a.2) = _ := h2
  rw [h2']; rfl

end Go.Proofs.Ytpabholjoblkbaa
