/- Steps and reductions. No conditions. -/
import Derived.Test.YtjfgddmngnkfdaaST3
namespace Go.Proofs.Ytjfgddmngnkfdaa
open Go.Vai
/-! what makes a step possible -/
def t_spec_l25Can {R : Type} (kx : Bool → Option R) (a0 : ((List Int) × (List Int))) (a1 : (Int × Int)) : Option R :=
  cond (decide ((((List.length a0.1) : Nat) : Int) < (2 : Int)))
  (kx Bool.false)
  (cond (a1.1 == (2 : Int))
   (cond (a1.2 == (0 : Int))
    (Option.bind (idx a0.1 (0 : Int)) fun y75 =>
     Option.bind (idx a0.1 (1 : Int)) fun y76 =>
     kx (decide (y75 ≤ y76)))
    (kx Bool.false))
   (cond (a1.1 == (3 : Int))
    (cond (a1.2 == (IntKind.wrap IntKind.i64 ((((List.length a0.1) : Nat) : Int) - (1 : Int))))
     (Option.bind (idx a0.1 (IntKind.wrap IntKind.i64 ((((List.length a0.1) : Nat) : Int) - (1 : Int)))) fun y77 =>
      Option.bind (idx a0.1 (IntKind.wrap IntKind.i64 ((((List.length a0.1) : Nat) : Int) - (2 : Int)))) fun y78 =>
      kx (decide (y77 ≤ y78)))
     (kx Bool.false))
    (cond (a1.1 == (1 : Int))
     (Option.bind (g_spec_l00In a1.2 (1 : Int) (IntKind.wrap IntKind.i64 ((((List.length a0.1) : Nat) : Int) - (2 : Int)))) fun y79 =>
      cond y79
      (Option.bind (idx a0.1 a1.2) fun y80 =>
       Option.bind (idx a0.1 (IntKind.wrap IntKind.i64 (a1.2 - (1 : Int)))) fun y81 =>
       cond (decide (y80 ≤ y81))
       (Option.bind (idx a0.1 a1.2) fun y82 =>
        Option.bind (idx a0.1 (IntKind.wrap IntKind.i64 (a1.2 + (1 : Int)))) fun y83 =>
        cond (decide (y82 ≤ y83))
        (Option.bind (idx a0.2 (IntKind.wrap IntKind.i64 (a1.2 - (1 : Int)))) fun y84 =>
         Option.bind (idx a0.2 a1.2) fun y85 =>
         kx (y84 != y85))
        (kx Bool.false))
       (kx Bool.false))
      (kx Bool.false))
     (kx Bool.false))))
def g_spec_l25Can (a0 : ((List Int) × (List Int))) (a1 : (Int × Int)) : Option (Bool) := t_spec_l25Can some a0 a1
/-! is a step possible? -/
abbrev Sp := Int × Int
abbrev Str := List Int × List Int

theorem len_ok (l : List Int) : g_impl_length_int64 l = some ((l.length : Nat) : Int) := by
  rw [g_impl_length_int64, t_impl_length_int64]
  try rw [wrap_len]

theorem can_eq (a : Str) (x : Sp) : g_impl_Strip_isPossible a x = g_spec_l25Can a x := by
  rw [g_impl_Strip_isPossible, t_impl_Strip_isPossible, g_spec_l25Can, t_spec_l25Can, len_ok]
  simp only [Option.bind_some, hwI, hwS]

theorem idx_in (l : List Int) {i : Int} (h0 : 0 ≤ i) (h1 : i < l.length) : ∃ x, idx l i = some x := by
  unfold idx
  rw [if_pos h0]
  exact ⟨_, List.getElem?_eq_getElem (by omega)⟩

/-- As long as a strip is. -/
abbrev Shp (a : Str) : Prop := 1 ≤ (a.1.length : Int) ∧ (a.1.length : Int) ≤ 14 ∧ (a.2.length : Int) = (a.1.length : Int) - 1
theorem can_tot {a : Str} (h : Shp a) (x : Sp) : ∃ c, g_spec_l25Can a x = some c := by
  obtain ⟨h1, h2, h3⟩ := id h
  rw [g_spec_l25Can, t_spec_l25Can]
  by_cases hn : (a.1.length : Int) < 2
  · rw [dec_t hn]; exact ⟨_, rfl⟩
  · rw [dec_f hn, cond_false, wrap_id (n := (a.1.length : Int) - 1) (by omega) (by omega), wrap_id (n := (a.1.length : Int) - 2) (by omega) (by omega)]
    cases x.1 == 2
    · rw [cond_false]
      cases x.1 == 3
      · rw [cond_false]
        cases x.1 == 1
        · exact ⟨_, rfl⟩
        · rw [cond_true, hwS, Option.bind_some]
          cases hw : (decide (x.2 ≥ 1) && decide (x.2 ≤ (a.1.length : Int) - 2))
          · exact ⟨_, rfl⟩
          · simp only [Bool.and_eq_true, decide_eq_true_eq] at hw
            obtain ⟨y1, e1⟩ := idx_in a.1 (i := x.2) (by omega) (by omega)
            obtain ⟨y2, e2⟩ := idx_in a.1 (i := x.2 - 1) (by omega) (by omega)
            obtain ⟨y3, e3⟩ := idx_in a.1 (i := x.2 + 1) (by omega) (by omega)
            obtain ⟨y4, e4⟩ := idx_in a.2 (i := x.2 - 1) (by omega) (by omega)
            obtain ⟨y5, e5⟩ := idx_in a.2 (i := x.2) (by omega) (by omega)
            rw [cond_true, wrap_id (n := x.2 - 1) (by omega) (by omega), wrap_id (n := x.2 + 1) (by omega) (by omega), e1, e2, e3, e4, e5]
            simp only [Option.bind_some]
            cases decide (y1 ≤ y2)
            · exact ⟨_, rfl⟩
            · cases decide (y1 ≤ y3) <;> exact ⟨_, rfl⟩
      · rw [cond_true]
        cases x.2 == (a.1.length : Int) - 1
        · exact ⟨_, rfl⟩
        · obtain ⟨y1, e1⟩ := idx_in a.1 (i := (a.1.length : Int) - 1) (by omega) (by omega)
          obtain ⟨y2, e2⟩ := idx_in a.1 (i := (a.1.length : Int) - 2) (by omega) (by omega)
          rw [cond_true, e1, e2]; exact ⟨_, rfl⟩
    · rw [cond_true]
      cases x.2 == 0
      · exact ⟨_, rfl⟩
      · obtain ⟨y1, e1⟩ := idx_in a.1 (i := 0) (by omega) (by omega)
        obtain ⟨y2, e2⟩ := idx_in a.1 (i := 1) (by omega) (by omega)
        rw [cond_true, e1, e2]; exact ⟨_, rfl⟩

noncomputable def canB (a : Str) (x : Sp) : Bool := (g_spec_l25Can a x).getD false
theorem can_ok {a : Str} (h : Shp a) (x : Sp) : g_spec_l25Can a x = some (canB a x) := by
  obtain ⟨c, hc⟩ := can_tot h x
  unfold canB
  rw [hc]; rfl

theorem okS_len {a : Str} (h : okS a = true) : Shp a := by
  simp only [okS, szs, Bool.and_eq_true, decide_eq_true_eq] at h
  exact ⟨h.1.1.1, h.1.1.2, h.2.1⟩

theorem overL_len {α : Type} (k lo : Nat) (ys l : List α) : (overL k lo ys l).length = l.length := by simp [overL]
theorem sm {α : Type} (q s : List α) (y v : α) : List.set (q ++ y :: s) (0 + Int.toNat ((q.length : Nat) : Int)) v = q ++ v :: s := by
  rw [set_mid rfl, List.append_assoc]; rfl
theorem im {α : Type} (q s : List α) (y : α) : idx (q ++ y :: s) ((q.length : Nat) : Int) = some y := ix rfl


/-! all steps -/
def mids : Nat → Int → List Sp
  | 0, _ => []
  | n + 1, i => (1, i) :: mids n (i + 1)
theorem mids_length : ∀ (n : Nat) (i : Int), (mids n i).length = n
  | 0, _ => rfl
  | n + 1, i => by simp [mids, mids_length n]

def stepL (a : Str) : List Sp := ((2, 0) :: mids (a.1.length - 2) 1) ++ [(3, (a.1.length : Int) - 1)]
theorem stepL_length (a : Str) : (stepL a).length = a.1.length - 2 + 2 := by simp [stepL, mids_length]

theorem implMids {a : Str} (h : Shp a) : ∀ (m : Nat) (i : Int) (acc : List Sp), 1 ≤ i → i + m = (a.1.length : Int) - 1 ∨ (m = 0 ∧ (a.1.length : Int) - 1 ≤ i) → acc.length ≤ 100 - m → m ≤ 20 →
    w_impl_Strip_steps_5 (m_impl_Strip_steps_5 ((a.1.length : Nat) : Int) acc i a.1 a.2) = some (.inl (d_impl_Strip_steps_5_0 ((a.1.length : Nat) : Int) (acc ++ mids m i) a.1 a.2))
  | 0, i, acc, h0, h1, ha, hm => by
    obtain ⟨k1, k2, k3⟩ := id h
    rw [wq_impl_Strip_steps_5, u_impl_Strip_steps_5, wrap_id (n := (a.1.length : Int) - 2) (by omega) (by omega), dec_f (by omega), cond_false]
    simp only [mids, List.append_nil]; rfl
  | m + 1, i, acc, h0, h1, ha, hm => by
    obtain ⟨k1, k2, k3⟩ := id h
    rw [wq_impl_Strip_steps_5, u_impl_Strip_steps_5, wrap_id (n := (a.1.length : Int) - 2) (by omega) (by omega), dec_t (by omega), cond_true]
    simp only [List.length_singleton]
    rw [dec_t (by omega), dec_t (by omega), cond_true, cond_true, wrap_id (n := i + 1) (by omega) (by omega)]
    refine (implMids h m (i + 1) (acc ++ [(1, i)]) (by omega) (by omega) (by simp; omega) (by omega)).trans ?_
    simp only [mids, List.append_assoc, List.singleton_append]

/-! deleting -/
theorem delF {a : Str} (h : Shp a) (x : Sp) : g_impl_Strip_steps_1 x a = some (!canB a x) := by
  rw [g_impl_Strip_steps_1, t_impl_Strip_steps_1, can_eq, can_ok h]; rfl

theorem delIndex {a : Str} (h : Shp a) (l : List Sp) (hl : l.length ≤ 100) : ∀ (r p : List Sp), l = p ++ r → p.filter (canB a) = p →
    (r.filter (canB a) = r ∧ w_slices_IndexFunc_Simpl_StripStep_impl_StripStep__impl_Strip_steps_1_3 (m_slices_IndexFunc_Simpl_StripStep_impl_StripStep__impl_Strip_steps_1_3 l ((l.length : Nat) : Int) ((p.length : Nat) : Int) a.1 a.2) = some (.inr (.inl d_slices_IndexFunc_Simpl_StripStep_impl_StripStep__impl_Strip_steps_1_3_1))) ∨
    (∃ q x s, l = q ++ x :: s ∧ q.filter (canB a) = q ∧ canB a x = false ∧ w_slices_IndexFunc_Simpl_StripStep_impl_StripStep__impl_Strip_steps_1_3 (m_slices_IndexFunc_Simpl_StripStep_impl_StripStep__impl_Strip_steps_1_3 l ((l.length : Nat) : Int) ((p.length : Nat) : Int) a.1 a.2) =
      some (.inl (d_slices_IndexFunc_Simpl_StripStep_impl_StripStep__impl_Strip_steps_1_3_0 ((q.length : Nat) : Int))))
  | [], p, hp, hf => by
    left
    rw [wq_slices_IndexFunc_Simpl_StripStep_impl_StripStep__impl_Strip_steps_1_3, u_slices_IndexFunc_Simpl_StripStep_impl_StripStep__impl_Strip_steps_1_3, lt_end hp, cond_false]
    exact ⟨rfl, rfl⟩
  | x :: r, p, hp, hf => by
    rw [wq_slices_IndexFunc_Simpl_StripStep_impl_StripStep__impl_Strip_steps_1_3, u_slices_IndexFunc_Simpl_StripStep_impl_StripStep__impl_Strip_steps_1_3, lt_in hp, cond_true, ix hp, Option.bind_some, delF h, Option.bind_some, wr hp (by omega)]
    cases hc : canB a x
    · right
      exact ⟨p, x, r, hp, hf, hc, rfl⟩
    · simp only [Bool.not_true, cond_false]
      rcases delIndex h l hl r (p ++ [x]) (nxt hp) (by simp [List.filter_append, hf, hc]) with ⟨h1, h2⟩ | h2
      · exact .inl ⟨by rw [List.filter_cons, hc, if_pos rfl, h1], h2⟩
      · exact .inr h2

theorem delLoop {a : Str} (h : Shp a) : ∀ (r kept mid : List Sp) (m : Sp), kept.length + mid.length + 1 + r.length ≤ 100 →
    ∃ e : List Sp, w_slices_DeleteFunc_Simpl_StripStep_impl_StripStep__impl_Strip_steps_1_6 (m_slices_DeleteFunc_Simpl_StripStep_impl_StripStep__impl_Strip_steps_1_6 (kept ++ (m :: mid) ++ r) ((kept.length : Nat) : Int) (((kept ++ (m :: mid)).length : Nat) : Int) a.1 a.2 (kept ++ (m :: mid) ++ r)) =
      some (.inl (d_slices_DeleteFunc_Simpl_StripStep_impl_StripStep__impl_Strip_steps_1_6_0 (kept ++ r.filter (canB a) ++ e) (((kept ++ r.filter (canB a)).length : Nat) : Int) (kept ++ r.filter (canB a) ++ e))) ∧ e ≠ [] ∧ (kept ++ r.filter (canB a) ++ e).length ≤ 100
  | [], kept, mid, m, hl => by
    refine ⟨m :: mid, ?_, by simp, by simp at hl ⊢; omega⟩
    rw [wq_slices_DeleteFunc_Simpl_StripStep_impl_StripStep__impl_Strip_steps_1_6, u_slices_DeleteFunc_Simpl_StripStep_impl_StripStep__impl_Strip_steps_1_6, lt_end rfl, cond_false]
    simp only [List.filter_nil, List.append_nil]; rfl
  | x :: r, kept, mid, m, hl => by
    simp only [List.length_cons] at hl
    have hlen : (kept ++ (m :: mid) ++ x :: r).length ≤ 100 := by simp; omega
    rw [wq_slices_DeleteFunc_Simpl_StripStep_impl_StripStep__impl_Strip_steps_1_6, u_slices_DeleteFunc_Simpl_StripStep_impl_StripStep__impl_Strip_steps_1_6, lt_in (rfl : kept ++ (m :: mid) ++ x :: r = kept ++ (m :: mid) ++ x :: r), cond_true, ix (rfl : kept ++ (m :: mid) ++ x :: r = kept ++ (m :: mid) ++ x :: r), Option.bind_some, delF h, Option.bind_some, wr (rfl : kept ++ (m :: mid) ++ x :: r = kept ++ (m :: mid) ++ x :: r) (by omega), List.filter_cons]
    cases hc : canB a x
    · simp only [Bool.not_false, Bool.not_true, cond_false, if_false, Bool.false_eq_true]
      obtain ⟨e, h1, h2⟩ := delLoop h r kept (mid ++ [x]) m (by simp; omega)
      refine ⟨e, ?_, h2⟩
      rw [← h1]
      simp only [List.append_assoc, List.cons_append, List.nil_append]
    · simp only [Bool.not_true, Bool.not_false, cond_true, if_true]
      have e1 : kept ++ (m :: mid) ++ x :: r = kept ++ m :: (mid ++ x :: r) := by simp
      rw [e1, im, Option.bind_some, sm]
      have hw : IntKind.wrap .i64 (((kept.length : Nat) : Int) + 1) = (((kept ++ [x]).length : Nat) : Int) := by
        rw [wrap_id (by omega) (by omega)]; simp
      rw [hw]
      cases mid with
      | nil =>
        obtain ⟨e, h1, h2, h3⟩ := delLoop h r (kept ++ [x]) [] x (by simp at hl ⊢; omega)
        refine ⟨e, ?_, h2, by simpa using h3⟩
        have e2 : kept ++ x :: r = kept ++ [x] ++ r := by simp
        simp only [List.append_assoc, List.cons_append, List.nil_append] at h1 ⊢
        have hn : (((kept ++ [m, x]).length : Nat) : Int) = (((kept ++ [x, x]).length : Nat) : Int) := by simp
        rw [hn]
        exact h1
      | cons m' mid' =>
        obtain ⟨e, h1, h2, h3⟩ := delLoop h r (kept ++ [x]) (mid' ++ [x]) m' (by simp at hl ⊢; omega)
        refine ⟨e, ?_, h2, by simpa using h3⟩
        simp only [List.append_assoc, List.cons_append, List.nil_append] at h1 ⊢
        have hn : (((kept ++ m :: m' :: (mid' ++ [x])).length : Nat) : Int) = (((kept ++ x :: m' :: (mid' ++ [x])).length : Nat) : Int) := by simp
        rw [hn]
        exact h1

theorem overL_take {α : Type} (lo : Nat) (ys l : List α) : (overL 0 lo ys l).take lo = l.take lo := by
  apply List.ext_getElem?
  intro i
  rw [List.getElem?_take, List.getElem?_take]
  by_cases h : i < lo
  · rw [if_pos h, if_pos h]
    simp only [overL, List.getElem?_mapIdx, Nat.zero_add]
    cases l[i]? with
    | none => rfl
    | some x => simp only [Option.map_some, overE, if_neg (show ¬ lo ≤ i by omega)]
  · rw [if_neg h, if_neg h]

theorem delSteps {a : Str} (h : Shp a) (l : List Sp) (hl : l.length ≤ 99) : g_slices_DeleteFunc_Simpl_StripStep_impl_StripStep__impl_Strip_steps_1 l a = some (l.filter (canB a)) := by
  rw [g_slices_DeleteFunc_Simpl_StripStep_impl_StripStep__impl_Strip_steps_1, t_slices_DeleteFunc_Simpl_StripStep_impl_StripStep__impl_Strip_steps_1, g_slices_IndexFunc_Simpl_StripStep_impl_StripStep__impl_Strip_steps_1, t_slices_IndexFunc_Simpl_StripStep_impl_StripStep__impl_Strip_steps_1]
  rcases delIndex h l (by omega) l [] rfl rfl with ⟨h1, h2⟩ | ⟨q, x, s, h1, h2, h3, h4⟩
  · have h2' : w_slices_IndexFunc_Simpl_StripStep_impl_StripStep__impl_Strip_steps_1_3 (m_slices_IndexFunc_Simpl_StripStep_impl_StripStep__impl_Strip_steps_1_3 l ((l.length : Nat) : Int) 0 a.1 a.2) = _ := h2
    rw [h2', h1]; rfl
  · have h4' : w_slices_IndexFunc_Simpl_StripStep_impl_StripStep__impl_Strip_steps_1_3 (m_slices_IndexFunc_Simpl_StripStep_impl_StripStep__impl_Strip_steps_1_3 l ((l.length : Nat) : Int) 0 a.1 a.2) = _ := h4
    rw [h4']
    have hlen : q.length + (s.length + 1) ≤ 99 := by rw [h1] at hl; simpa using hl
    obtain ⟨e, k1, k2, k3⟩ := delLoop h s q [] x (by simp; omega)
    have hq : (q ++ [x]) ++ s = l := by rw [h1]; simp
    rw [hq] at k1
    have hres : q ++ s.filter (canB a) = l.filter (canB a) := by
      rw [h1, List.filter_append, List.filter_cons, h3, h2]; simp
    rw [hres] at k1 k3
    show cond ((((q.length : Nat) : Int)) == (-1)) (some l) (Option.bind (w_slices_DeleteFunc_Simpl_StripStep_impl_StripStep__impl_Strip_steps_1_6 (m_slices_DeleteFunc_Simpl_StripStep_impl_StripStep__impl_Strip_steps_1_6 l ((q.length : Nat) : Int) (IntKind.wrap .i64 (((q.length : Nat) : Int) + 1)) a.1 a.2 l)) _) = _
    have hw : IntKind.wrap .i64 (((q.length : Nat) : Int) + 1) = (((q ++ [x]).length : Nat) : Int) := by
      rw [wrap_id (by omega) (by omega)]; simp
    rw [show ((((q.length : Nat) : Int)) == (-1)) = false from (by rw [beq_eq_false_iff_ne]; omega), cond_false, hw, k1]
    have hpos : 0 < (l.filter (canB a) ++ e).length := by
      cases e with
      | nil => exact absurd rfl k2
      | cons y e => simp only [List.length_append, List.length_cons]; omega
    have hle : (l.filter (canB a)).length ≤ (l.filter (canB a) ++ e).length := by simp
    generalize hF : l.filter (canB a) = F at *
    generalize hX : F ++ e = X at *
    show cond (decide (0 < X.length)) (cond (decide ((0 : Int) ≤ ((F.length : Nat) : Int))) (cond (decide (((F.length : Nat) : Int) ≤ ((X.length : Nat) : Int))) (cond (decide (0 < (overL 0 (0 + Int.toNat ((F.length : Nat) : Int)) (List.replicate (List.drop (Int.toNat ((F.length : Nat) : Int)) (List.take X.length X)).length ((0 : Int), (0 : Int))) X).length)) (cond (decide ((0 : Int) ≤ ((F.length : Nat) : Int))) (cond (decide (((F.length : Nat) : Int) ≤ (((overL 0 (0 + Int.toNat ((F.length : Nat) : Int)) (List.replicate (List.drop (Int.toNat ((F.length : Nat) : Int)) (List.take X.length X)).length ((0 : Int), (0 : Int))) X).length : Nat) : Int))) (some (List.drop 0 (List.take (Int.toNat ((F.length : Nat) : Int)) (overL 0 (0 + Int.toNat ((F.length : Nat) : Int)) (List.replicate (List.drop (Int.toNat ((F.length : Nat) : Int)) (List.take X.length X)).length ((0 : Int), (0 : Int))) X)))) none) none) none) none) none) none = _
    rw [overL_len, dec_t hpos, dec_t (by omega), dec_t (by omega)]
    simp only [cond_true, Int.toNat_natCast, Nat.zero_add, List.drop_zero]
    rw [overL_take, ← hX, List.take_left']
    rfl

theorem implSteps {a : Str} (h : Shp a) : g_impl_Strip_steps a = some ((stepL a).filter (canB a)) := by
  obtain ⟨k1, k2, k3⟩ := id h
  have h1 := implMids h (a.1.length - 2) 1 [(2, 0)] (by decide) (by omega) (by simp; omega) (by omega)
  have hl := stepL_length a
  have h2 := delSteps h (stepL a) (by omega)
  rw [g_impl_Strip_steps, t_impl_Strip_steps, len_ok, Option.bind_some, h1]
  have e : ([((2 : Int), (0 : Int))] ++ mids (a.1.length - 2) 1) ++ [((3 : Int), ((a.1.length : Nat) : Int) - 1)] = stepL a := rfl
  have el : ([((2 : Int), (0 : Int))] ++ mids (a.1.length - 2) 1).length + [((3 : Int), ((a.1.length : Nat) : Int) - 1)].length = (stepL a).length := by rw [← e]; simp only [List.length_append]
  show cond (decide ((([((2 : Int), (0 : Int))] ++ mids (a.1.length - 2) 1).length + [((3 : Int), IntKind.wrap .i64 (((a.1.length : Nat) : Int) - 1))].length) * 16 ≤ 70368744177664)) (cond (decide (([((2 : Int), (0 : Int))] ++ mids (a.1.length - 2) 1).length + [((3 : Int), IntKind.wrap .i64 (((a.1.length : Nat) : Int) - 1))].length ≤ 70368744177664)) (cond (decide ((([((2 : Int), (0 : Int))] ++ mids (a.1.length - 2) 1) ++ [((3 : Int), IntKind.wrap .i64 (((a.1.length : Nat) : Int) - 1))]).length = (([((2 : Int), (0 : Int))] ++ mids (a.1.length - 2) 1) ++ [((3 : Int), IntKind.wrap .i64 (((a.1.length : Nat) : Int) - 1))]).length)) (Option.bind (g_slices_DeleteFunc_Simpl_StripStep_impl_StripStep__impl_Strip_steps_1 (([((2 : Int), (0 : Int))] ++ mids (a.1.length - 2) 1) ++ [((3 : Int), IntKind.wrap .i64 (((a.1.length : Nat) : Int) - 1))]) (a.1, a.2)) _) none) none) none = _
  rw [wrap_id (n := ((a.1.length : Nat) : Int) - 1) (by omega) (by omega), el, e, dec_t (by omega), dec_t (by omega), dec_t rfl, cond_true, cond_true, cond_true]
  have h2' : g_slices_DeleteFunc_Simpl_StripStep_impl_StripStep__impl_Strip_steps_1 (stepL a) (a.1, a.2) = _ := h2
  rw [h2']; rfl

/-! a part is replaced, a part goes -/
theorem ct {p : Prop} [Decidable p] {α : Type} {a b r : Option α} (hp : p) (h : a = r) : cond (decide p) a b = r := by rw [dec_t hp]; exact h
theorem cf {p : Prop} [Decidable p] {α : Type} {a b r : Option α} (hp : ¬ p) (h : b = r) : cond (decide p) a b = r := by rw [dec_f hp]; exact h
theorem cn {x y : Int} {α : Type} {a b r : Option α} (hp : x ≠ y) (h : b = r) : cond (x == y) a b = r := by rw [beq_eq_false_iff_ne.2 hp]; exact h
theorem ce {x y : Int} {α : Type} {a b r : Option α} (hp : x = y) (h : a = r) : cond (x == y) a b = r := by rw [beq_iff_eq.2 hp]; exact h
theorem getElem?_overL {α : Type} (lo : Nat) (ys l : List α) (i : Nat) : (overL 0 lo ys l)[i]? = if lo ≤ i ∧ i < lo + ys.length ∧ i < l.length then ys[i - lo]? else l[i]? := by
  simp only [overL, List.getElem?_mapIdx, Nat.zero_add]
  by_cases hi : i < l.length
  · rw [List.getElem?_eq_getElem hi]
    simp only [Option.map_some, overE]
    by_cases h1 : lo ≤ i
    · rw [if_pos h1]
      by_cases h2 : i < lo + ys.length
      · rw [if_pos ⟨h1, h2, hi⟩, List.getElem?_eq_getElem (by omega)]
        first | rfl | simp
      · rw [if_neg (fun h => h2 h.2.1), List.getElem?_eq_none (by omega)]
        first | rfl | simp
    · rw [if_neg h1, if_neg (fun h => h1 h.1)]
  · rw [List.getElem?_eq_none (by omega), if_neg (fun h => hi h.2.2)]; rfl
theorem overL_past {α : Type} (lo : Nat) (ys l : List α) (h : l.length ≤ lo) : overL 0 lo ys l = l := by
  apply List.ext_getElem?
  intro i
  rw [getElem?_overL]
  by_cases hi : i < l.length
  · rw [if_neg (by omega)]
  · rw [if_neg (by omega)]

theorem replace3 (l : List Int) (m : Nat) (v : Int) (hm : m + 3 ≤ l.length) (hl : l.length ≤ 1000) : g_slices_Replace_Sint64_int64 l (m : Int) ((m : Int) + 3) [v] = some (l.take m ++ v :: l.drop (m + 3)) := by
  rw [g_slices_Replace_Sint64_int64, t_slices_Replace_Sint64_int64]
  have e3 : Int.toNat ((m : Int) + 3) = m + 3 := by omega
  have e1 : Int.toNat ((m : Int) + 1) = m + 1 := by omega
  have emin : min m l.length = m := by omega
  simp only [Int.toNat_natCast, e3, Nat.zero_add, List.drop_zero, List.length_append, List.length_take, List.length_drop, List.length_singleton, overL_len, emin, Nat.min_self, List.take_length]
  have w0 : IntKind.wrap .i64 ((m : Int) + ((1 : Nat) : Int)) = (m : Int) + 1 := wrap_id (by omega) (by omega)
  have w2 : IntKind.wrap .i64 ((m : Int) + 1 + (((l.length - (m + 3) : Nat)) : Int)) = ((l.length - 2 : Nat) : Int) := by
    rw [wrap_id (by omega) (by omega)]; omega
  simp only [w0, w2, Int.toNat_natCast, e1]
  refine ct (by omega) (ct (by omega) (ct (by omega) (ct (by omega) (cn (by omega) ?_))))
  by_cases hc : (m : Int) + 3 = (l.length : Int)
  · refine ce hc (ct (by omega) (ct (by omega) (ct (by omega) (ct (by omega) (ct (by omega) (ct (by omega) (ct (by omega) ?_)))))))
    have hd : l.drop (m + 3) = [] := List.drop_eq_nil_iff.2 (by omega)
    rw [hd, overL_past _ _ _ (by simp; omega)]
  · refine cn hc ?_
    repeat (refine ct (by first | omega | (simp; omega)) ?_)
    congr 1
    rw [overL_past (l.length - 2) _ _ (by simp only [overL_len, List.length_take]; omega)]
    apply List.ext_getElem?
    intro i
    rw [getElem?_overL]
    simp only [overL_len, List.length_drop, List.length_take, Nat.min_self]
    have hm2 : (l.take m).length = m := by simp; omega
    by_cases h1 : i < m
    · rw [if_neg (by omega), getElem?_overL, if_neg (by omega), List.getElem?_take, if_pos (by omega), List.getElem?_append_left (by omega), List.getElem?_take, if_pos h1]
    · rw [List.getElem?_append_right (by omega), hm2]
      by_cases h2 : i = m
      · subst h2
        rw [if_neg (by omega), getElem?_overL, if_pos (by simp; omega), Nat.sub_self]
        rfl
      · obtain ⟨j, rfl⟩ : ∃ j, i = m + 1 + j := ⟨i - m - 1, by omega⟩
        rw [show m + 1 + j - m = j + 1 by omega, List.getElem?_cons_succ, List.getElem?_drop]
        by_cases h3 : m + 1 + j < l.length - 2
        · rw [if_pos (by omega), show m + 1 + j - (m + 1) = j by omega, List.getElem?_drop, List.getElem?_take, if_pos (by omega), getElem?_overL, if_neg (by simp; omega)]
        · rw [if_neg (by omega), List.getElem?_eq_none (by simp only [overL_len, List.length_take]; omega), List.getElem?_eq_none (by simp only [List.length_drop]; omega)]

theorem delete2 (l : List Int) (m : Nat) (hm : m + 2 ≤ l.length) (hl : l.length ≤ 1000) : g_slices_Delete_Sint64_int64 l (m : Int) ((m : Int) + 2) = some (l.take m ++ l.drop (m + 2)) := by
  rw [g_slices_Delete_Sint64_int64, t_slices_Delete_Sint64_int64]
  have e3 : Int.toNat ((m : Int) + 2) = m + 2 := by omega
  have emin : min m l.length = m := by omega
  simp only [Int.toNat_natCast, e3, Nat.zero_add, List.drop_zero, List.length_append, List.length_take, List.length_drop, overL_len, emin, Nat.min_self, List.take_length]
  refine ct (by omega) (ct (by omega) (ct (by omega) (ct (by omega) (cn (by omega) ?_))))
  repeat (refine ct (by omega) ?_)
  rw [overL_past _ _ _ (by simp; omega)]

/-! one step -/
theorem clone_ok (l : List Int) (hl : l.length ≤ 1000) : g_slices_Clone_Sint64_int64 l = some l := by
  rw [g_slices_Clone_Sint64_int64, dec_t (by omega)]; rfl

/-- What a possible step makes of a strip. -/
def stepA (a : Str) (x : Sp) : Str :=
  if x.1 = 2 then (a.1.drop 1, a.2.drop 1) else
  if x.1 = 3 then (a.1.take (a.1.length - 1), a.2.take (a.1.length - 2)) else
  (a.1.take (x.2.toNat - 1) ++ (IntKind.wrap .i64 ((IntKind.wrap .i64 (a.1.getD (x.2.toNat - 1) 0 - a.1.getD x.2.toNat 0)) + a.1.getD (x.2.toNat + 1) 0)) :: a.1.drop (x.2.toNat + 2), a.2.take (x.2.toNat - 1) ++ a.2.drop (x.2.toNat + 1))

theorem can_inv {a : Str} (h : Shp a) {x : Sp} (hc : canB a x = true) : 2 ≤ a.1.length ∧ (x.1 = 2 ∨ (x.1 = 3 ∧ x.2 = (a.1.length : Int) - 1) ∨ (x.1 ≠ 2 ∧ x.1 ≠ 3 ∧ 1 ≤ x.2 ∧ x.2 ≤ (a.1.length : Int) - 2)) := by
  obtain ⟨h1, h2, h3⟩ := id h
  have hk := can_ok h x
  rw [hc, g_spec_l25Can, t_spec_l25Can] at hk
  by_cases hn : (a.1.length : Int) < 2
  · rw [dec_t hn] at hk; cases hk
  · rw [dec_f hn, cond_false] at hk
    refine ⟨by omega, ?_⟩
    by_cases e2 : x.1 = 2
    · exact .inl e2
    · right
      rw [beq_eq_false_iff_ne.2 e2, cond_false] at hk
      by_cases e3 : x.1 = 3
      · left
        refine ⟨e3, ?_⟩
        rw [beq_iff_eq.2 e3, cond_true, wrap_id (n := (a.1.length : Int) - 1) (by omega) (by omega)] at hk
        by_cases e4 : x.2 = (a.1.length : Int) - 1
        · exact e4
        · rw [beq_eq_false_iff_ne.2 e4] at hk; cases hk
      · right
        rw [beq_eq_false_iff_ne.2 e3, cond_false] at hk
        refine ⟨e2, e3, ?_⟩
        by_cases e1 : x.1 = 1
        · rw [beq_iff_eq.2 e1, cond_true, hwS, Option.bind_some, wrap_id (n := (a.1.length : Int) - 2) (by omega) (by omega)] at hk
          cases hw : (decide (x.2 ≥ 1) && decide (x.2 ≤ (a.1.length : Int) - 2))
          · rw [hw] at hk; cases hk
          · simp only [Bool.and_eq_true, decide_eq_true_eq] at hw
            exact ⟨by omega, hw.2⟩
        · rw [beq_eq_false_iff_ne.2 e1] at hk; cases hk

theorem idx_getD (l : List Int) (n : Nat) (h : n < l.length) : idx l (n : Int) = some (l.getD n 0) := by
  unfold idx
  rw [if_pos (by omega), Int.toNat_natCast, List.getElem?_eq_getElem h, List.getD_eq_getElem?_getD, List.getElem?_eq_getElem h]; rfl

theorem implApply {a : Str} (h : Shp a) {x : Sp} (hc : canB a x = true) : g_impl_Strip_apply a x = some (stepA a x) := by
  obtain ⟨h1, h2, h3⟩ := id h
  obtain ⟨hn, hx⟩ := can_inv h hc
  rw [g_impl_Strip_apply, t_impl_Strip_apply, clone_ok _ (by omega), clone_ok _ (by omega), Option.bind_some, Option.bind_some]
  unfold stepA
  rcases hx with e | ⟨e, e'⟩ | ⟨e, e', e1, e2⟩
  · rw [if_pos e]
    refine ce e ?_
    simp only [List.take_length, Int.reduceToNat]
    repeat (refine ct (by omega) ?_)
    rfl
  · rw [if_neg (by omega), if_pos e]
    refine cn (by omega) (ce e ?_)
    have w0 : x.2 = ((a.1.length - 1 : Nat) : Int) := by omega
    have w2 : IntKind.wrap .i64 (x.2 - 1) = ((a.1.length - 2 : Nat) : Int) := by rw [wrap_id (by omega) (by omega)]; omega
    simp only [w2]
    rw [w0]
    simp only [Int.toNat_natCast, List.drop_zero]
    repeat (refine ct (by omega) ?_)
    rfl
  · obtain ⟨m, hm⟩ : ∃ m : Nat, x.2 = (m : Int) + 1 := ⟨(x.2 - 1).toNat, by omega⟩
    rw [if_neg e, if_neg e']
    refine cn e (cn e' ?_)
    have w1 : IntKind.wrap .i64 (x.2 - 1) = (m : Int) := by rw [wrap_id (by omega) (by omega)]; omega
    have w2 : IntKind.wrap .i64 (x.2 + 1) = (m : Int) + 2 := by rw [wrap_id (by omega) (by omega)]; omega
    have w3 : IntKind.wrap .i64 (x.2 + 2) = (m : Int) + 3 := by rw [wrap_id (by omega) (by omega)]; omega
    have w0 : x.2 = ((m + 1 : Nat) : Int) := by omega
    have i2 : idx a.1 ((m : Int) + 2) = some (a.1.getD (m + 2) 0) := idx_getD a.1 (m + 2) (by omega)
    simp only [w1, w2, w3]
    rw [w0]
    simp only [Int.toNat_natCast, idx_getD _ _ (show m < a.1.length by omega), idx_getD _ _ (show m + 1 < a.1.length by omega), i2, Option.bind_some, replace3 a.1 m _ (by omega) (by omega), delete2 a.2 m (by omega) (by omega), decide_true, cond_true, Nat.add_sub_cancel]

theorem stepA_length {a : Str} (h : Shp a) (x : Sp) : (stepA a x).1.length ≤ 100 ∧ (stepA a x).2.length ≤ 100 := by
  obtain ⟨h1, h2, h3⟩ := id h
  unfold stepA
  split
  · simp; omega
  · split
    · simp; omega
    · simp; omega

/-! step by step, until none is possible -/
theorem stepA_shp {a : Str} (h : Shp a) {x : Sp} (hc : canB a x = true) : Shp (stepA a x) ∧ (stepA a x).1.length < a.1.length := by
  obtain ⟨h1, h2, h3⟩ := id h
  obtain ⟨hn, hx⟩ := can_inv h hc
  unfold stepA
  rcases hx with e | ⟨e, e'⟩ | ⟨e, e', e1, e2⟩
  · rw [if_pos e]
    simp only [Shp, List.length_drop]
    omega
  · rw [if_neg (by omega), if_pos e]
    simp only [Shp, List.length_take]
    omega
  · rw [if_neg e, if_neg e']
    simp only [Shp, List.length_append, List.length_take, List.length_cons, List.length_drop]
    omega


noncomputable def redL : Nat → List Sp → Str → List Sp × Str
  | 0, acc, a => (acc, a)
  | n + 1, acc, a => match (stepL a).filter (canB a) with
    | [] => (acc, a)
    | x :: _ => redL n (acc ++ [x]) (stepA a x)

theorem redL_len : ∀ (n : Nat) (acc : List Sp) (a : Str), Shp a → (redL n acc a).1.length ≤ acc.length + n ∧ Shp (redL n acc a).2
  | 0, acc, a, h => ⟨by simp [redL], h⟩
  | n + 1, acc, a, h => by
    unfold redL
    split
    · exact ⟨by simp, h⟩
    · rename_i x r hf
      have hx : canB a x = true := (List.mem_filter.1 (show x ∈ (stepL a).filter (canB a) by rw [hf]; simp)).2
      obtain ⟨k1, k2⟩ := redL_len n (acc ++ [x]) (stepA a x) (stepA_shp h hx).1
      exact ⟨by simp at k1; omega, k2⟩

theorem implRed : ∀ (n : Nat) (a : Str) (acc : List Sp), Shp a → a.1.length ≤ n → acc.length + n ≤ 100 →
    (w_impl_Strip_reduce_4 (m_impl_Strip_reduce_4 acc [] [] a.1 a.2)) = some (.inl (d_impl_Strip_reduce_4_0 (redL n acc a).1 (redL n acc a).2.1 (redL n acc a).2.2))
  | 0, a, acc, h, hn, ha => by have := h.1; omega
  | n + 1, a, acc, h, hn, ha => by
    have e0 : g_impl_Strip_steps (a.1, a.2) = _ := implSteps h
    rw [wq_impl_Strip_reduce_4, u_impl_Strip_reduce_4, e0, Option.bind_some]
    unfold redL
    cases hf : (stepL a).filter (canB a) with
    | nil => rfl
    | cons x r =>
      have hx : canB a x = true := (List.mem_filter.1 (show x ∈ (stepL a).filter (canB a) by rw [hf]; simp)).2
      obtain ⟨k1, k2⟩ := stepA_shp h hx
      have hi : idx (x :: r) (0 : Int) = some x := rfl
      rw [beq_eq_false_iff_ne.2 (show (((x :: r).length : Nat) : Int) ≠ 0 by simp only [List.length_cons]; omega), cond_false]
      simp only [hi, Option.bind_some, List.length_singleton]
      have e1 : g_impl_Strip_apply (a.1, a.2) x = _ := implApply h hx
      rw [dec_t (by omega), dec_t (by omega), cond_true, cond_true, e1, Option.bind_some]
      exact implRed n (stepA a x) (acc ++ [x]) k1 (by omega) (by simp; omega)

theorem implReduce {a : Str} (h : Shp a) : g_impl_Strip_reduce a = some (redL 20 [] a) := by
  obtain ⟨h1, h2, h3⟩ := id h
  have e2 := implRed 20 a [] h (by omega) (by simp)
  rw [g_impl_Strip_reduce, t_impl_Strip_reduce, clone_ok _ (by omega), clone_ok _ (by omega), Option.bind_some, Option.bind_some, e2]
  rfl

noncomputable def flatB (a : Str) : Bool := ((((redL 20 [] a).2.1.length : Nat) : Int) == (1 : Int))
theorem implFlat {a : Str} (h : Shp a) : g_impl_Strip_isFlat a = some (flatB a) := by
  rw [g_impl_Strip_isFlat, t_impl_Strip_isFlat, implReduce h]; rfl

noncomputable def chkB : List Sp → Str → Bool
  | [], a => ((a.1.length : Nat) : Int) == 1
  | x :: r, a => cond (canB a x) (chkB r (stepA a x)) false

theorem implChk (l : List Sp) (hl : l.length ≤ 1048576) : ∀ (r p : List Sp) (a : Str), l = p ++ r → Shp a →
    (w_impl_CheckReduction_5 (m_impl_CheckReduction_5 l ((l.length : Nat) : Int) ((p.length : Nat) : Int) a.1 a.2)).bind (exC x_impl_CheckReduction_5 (fun e => some (e.1.2.1.1 : Bool), fun e => some ((((List.length (e.2.1.1.1 : List Int)) : Nat) : Int) == (1 : Int)), ())) = some (chkB r a)
  | [], p, a, h, ha => by
    rw [wq_impl_CheckReduction_5, u_impl_CheckReduction_5, lt_end h, cond_false]; rfl
  | x :: r, p, a, h, ha => by
    rw [wq_impl_CheckReduction_5, u_impl_CheckReduction_5, lt_in h, cond_true, ix h]
    simp only [Option.bind_some]
    have e0 : g_impl_Strip_isPossible (a.1, a.2) x = _ := (can_eq a x).trans (can_ok ha x)
    rw [e0, Option.bind_some]
    unfold chkB
    cases hc : canB a x
    · rfl
    · have e1 : g_impl_Strip_apply (a.1, a.2) x = _ := implApply ha hc
      rw [Bool.not_true, cond_false, e1, Option.bind_some, wr h (by omega), cond_true]
      exact implChk l hl r (p ++ [x]) (stepA a x) (nxt h) (stepA_shp ha hc).1

theorem implCheck (a : Str) (l : List Sp) (h1 : a.1.length ≤ 1048576) (h2 : a.2.length ≤ 1048576) (hl : l.length ≤ 1048576) : g_impl_CheckReduction a l = some (okS a && chkB l a) := by
  rw [g_impl_CheckReduction, t_impl_CheckReduction, impl_ok a h1 h2, Option.bind_some]
  cases h : okS a
  · rfl
  · have ha := okS_len h
    rw [Bool.not_true, cond_false, Bool.true_and, tq_impl_CheckReduction_5p, u_impl_CheckReduction_5p]
    cases l with
    | nil => rfl
    | cons x r =>
      have hi : idx (x :: r) (0 : Int) = some x := rfl
      rw [dec_t (show (0 : Int) < (((x :: r).length : Nat) : Int) by simp only [List.length_cons]; omega), cond_true, hi, Option.bind_some]
      have e0 : g_impl_Strip_isPossible (a.1, a.2) x = _ := (can_eq a x).trans (can_ok ha x)
      rw [e0, Option.bind_some]
      unfold chkB
      cases hc : canB a x
      · rfl
      · have e1 : g_impl_Strip_apply (a.1, a.2) x = _ := implApply ha hc
        rw [Bool.not_true, cond_false, e1, Option.bind_some, cond_true]
        exact implChk (x :: r) hl r [x] (stepA a x) rfl (stepA_shp ha hc).1

noncomputable def appS (a : Str) (x : Sp) : Str × Int := cond (okS a) (cond (canB a x) (stepA a x, 0) (([], []), 9)) (([], []), 1)
theorem impl_app (a : Str) (x : Sp) (h1 : a.1.length ≤ 1048576) (h2 : a.2.length ≤ 1048576) : g_impl_ApplyStrip a x = some (appS a x) := by
  rw [g_impl_ApplyStrip, t_impl_ApplyStrip, impl_ok a h1 h2, Option.bind_some]
  unfold appS
  cases h : okS a
  · rfl
  · rw [Bool.not_true, cond_false, can_eq, can_ok (okS_len h), Option.bind_some]
    cases hc : canB a x
    · rfl
    · rw [Bool.not_true, cond_false, implApply (okS_len h) hc]; rfl

theorem impl_flat (a : Str) (h1 : a.1.length ≤ 1048576) (h2 : a.2.length ≤ 1048576) : g_impl_StripFlat a = some (okS a && flatB a) := by
  rw [g_impl_StripFlat, t_impl_StripFlat, impl_ok a h1 h2, Option.bind_some]
  cases h : okS a
  · rfl
  · rw [cond_true, implFlat (okS_len h)]; rfl
end Go.Proofs.Ytjfgddmngnkfdaa
