/- Steps. No conditions. -/
import Derived.Test.YtpabholjoblkbaaCR3
namespace Go.Proofs.Ytpabholjoblkbaa
open Go.Vai
/-! is a step possible? -/
abbrev Sp := Int × Int
abbrev Str := List Int × List Int

theorem len_ok (l : List Int) : g_impl_length_int64 l = some ((l.length : Nat) : Int) := by
  rw [g_impl_length_int64, t_impl_length_int64]
  try rw [wrap_len]

theorem can_eq (a : Str) (x : Sp) : g_impl_Strip_isPossible a x = g_spec_l25Can a x := by
  rw [g_impl_Strip_isPossible, t_impl_Strip_isPossible, g_spec_l25Can, t_spec_l25Can, len_ok]
  simp only [Option.bind_some, hwI, hwS]

theorem idx_in (l : List Int) {i : Int} (h0 : 0 ≤ i) (h1 : i < l.length) : ∃ x, idx l i = some x := by
  unfold idx
  rw [if_pos h0]
  exact ⟨_, List.getElem?_eq_getElem (by omega)⟩

/-- As long as a strip is. -/
abbrev Shp (a : Str) : Prop := 1 ≤ (a.1.length : Int) ∧ (a.1.length : Int) ≤ 14 ∧ (a.2.length : Int) = (a.1.length : Int) - 1
theorem can_tot {a : Str} (h : Shp a) (x : Sp) : ∃ c, g_spec_l25Can a x = some c := by
  obtain ⟨h1, h2, h3⟩ := id h
  rw [g_spec_l25Can, t_spec_l25Can]
  by_cases hn : (a.1.length : Int) < 2
  · rw [dec_t hn]; exact ⟨_, rfl⟩
  · rw [dec_f hn, cond_false, wrap_id (n := (a.1.length : Int) - 1) (by omega) (by omega), wrap_id (n := (a.1.length : Int) - 2) (by omega) (by omega)]
    cases x.1 == 2
    · rw [cond_false]
      cases x.1 == 3
      · rw [cond_false]
        cases x.1 == 1
        · exact ⟨_, rfl⟩
        · rw [cond_true, hwS, Option.bind_some]
          cases hw : (decide (x.2 ≥ 1) && decide (x.2 ≤ (a.1.length : Int) - 2))
          · exact ⟨_, rfl⟩
          · simp only [Bool.and_eq_true, decide_eq_true_eq] at hw
            obtain ⟨y1, e1⟩ := idx_in a.1 (i := x.2) (by omega) (by omega)
            obtain ⟨y2, e2⟩ := idx_in a.1 (i := x.2 - 1) (by omega) (by omega)
            obtain ⟨y3, e3⟩ := idx_in a.1 (i := x.2 + 1) (by omega) (by omega)
            obtain ⟨y4, e4⟩ := idx_in a.2 (i := x.2 - 1) (by omega) (by omega)
            obtain ⟨y5, e5⟩ := idx_in a.2 (i := x.2) (by omega) (by omega)
            rw [cond_true, wrap_id (n := x.2 - 1) (by omega) (by omega), wrap_id (n := x.2 + 1) (by omega) (by omega), e1, e2, e3, e4, e5]
            simp only [Option.bind_some]
            cases decide (y1 ≤ y2)
            · exact ⟨_, rfl⟩
            · cases decide (y1 ≤ y3) <;> exact ⟨_, rfl⟩
      · rw [cond_true]
        cases x.2 == (a.1.length : Int) - 1
        · exact ⟨_, rfl⟩
        · obtain ⟨y1, e1⟩ := idx_in a.1 (i := (a.1.length : Int) - 1) (by omega) (by omega)
          obtain ⟨y2, e2⟩ := idx_in a.1 (i := (a.1.length : Int) - 2) (by omega) (by omega)
          rw [cond_true, e1, e2]; exact ⟨_, rfl⟩
    · rw [cond_true]
      cases x.2 == 0
      · exact ⟨_, rfl⟩
      · obtain ⟨y1, e1⟩ := idx_in a.1 (i := 0) (by omega) (by omega)
        obtain ⟨y2, e2⟩ := idx_in a.1 (i := 1) (by omega) (by omega)
        rw [cond_true, e1, e2]; exact ⟨_, rfl⟩

noncomputable def canB (a : Str) (x : Sp) : Bool := (g_spec_l25Can a x).getD false
theorem can_ok {a : Str} (h : Shp a) (x : Sp) : g_spec_l25Can a x = some (canB a x) := by
  obtain ⟨c, hc⟩ := can_tot h x
  unfold canB
  rw [hc]; rfl

theorem okS_len {a : Str} (h : okS a = true) : Shp a := by
  simp only [okS, szs, Bool.and_eq_true, decide_eq_true_eq] at h
  exact ⟨h.1.1.1, h.1.1.2, h.2.1⟩

theorem overL_len {α : Type} (k lo : Nat) (ys l : List α) : (overL k lo ys l).length = l.length := by simp [overL]
theorem sm {α : Type} (q s : List α) (y v : α) : List.set (q ++ y :: s) (0 + Int.toNat ((q.length : Nat) : Int)) v = q ++ v :: s := by
  rw [set_mid rfl, List.append_assoc]; rfl
theorem im {α : Type} (q s : List α) (y : α) : idx (q ++ y :: s) ((q.length : Nat) : Int) = some y := ix rfl


/-! a part is replaced, a part goes -/
theorem ct {p : Prop} [Decidable p] {α : Type} {a b r : Option α} (hp : p) (h : a = r) : cond (decide p) a b = r := by rw [dec_t hp]; exact h
theorem cf {p : Prop} [Decidable p] {α : Type} {a b r : Option α} (hp : ¬ p) (h : b = r) : cond (decide p) a b = r := by rw [dec_f hp]; exact h
theorem cn {x y : Int} {α : Type} {a b r : Option α} (hp : x ≠ y) (h : b = r) : cond (x == y) a b = r := by rw [beq_eq_false_iff_ne.2 hp]; exact h
theorem ce {x y : Int} {α : Type} {a b r : Option α} (hp : x = y) (h : a = r) : cond (x == y) a b = r := by rw [beq_iff_eq.2 hp]; exact h
theorem getElem?_overL {α : Type} (lo : Nat) (ys l : List α) (i : Nat) : (overL 0 lo ys l)[i]? = if lo ≤ i ∧ i < lo + ys.length ∧ i < l.length then ys[i - lo]? else l[i]? := by
  simp only [overL, List.getElem?_mapIdx, Nat.zero_add]
  by_cases hi : i < l.length
  · rw [List.getElem?_eq_getElem hi]
    simp only [Option.map_some, overE]
    by_cases h1 : lo ≤ i
    · rw [if_pos h1]
      by_cases h2 : i < lo + ys.length
      · rw [if_pos ⟨h1, h2, hi⟩, List.getElem?_eq_getElem (by omega)]
        first | rfl | simp
      · rw [if_neg (fun h => h2 h.2.1), List.getElem?_eq_none (by omega)]
        first | rfl | simp
    · rw [if_neg h1, if_neg (fun h => h1 h.1)]
  · rw [List.getElem?_eq_none (by omega), if_neg (fun h => hi h.2.2)]; rfl
theorem overL_past {α : Type} (lo : Nat) (ys l : List α) (h : l.length ≤ lo) : overL 0 lo ys l = l := by
  apply List.ext_getElem?
  intro i
  rw [getElem?_overL]
  by_cases hi : i < l.length
  · rw [if_neg (by omega)]
  · rw [if_neg (by omega)]

theorem replace3 (l : List Int) (m : Nat) (v : Int) (hm : m + 3 ≤ l.length) (hl : l.length ≤ 1000) : g_slices_Replace_Sint64_int64 l (m : Int) ((m : Int) + 3) [v] = some (l.take m ++ v :: l.drop (m + 3)) := by
  rw [g_slices_Replace_Sint64_int64, t_slices_Replace_Sint64_int64]
  have e3 : Int.toNat ((m : Int) + 3) = m + 3 := by omega
  have e1 : Int.toNat ((m : Int) + 1) = m + 1 := by omega
  have emin : min m l.length = m := by omega
  simp only [Int.toNat_natCast, e3, Nat.zero_add, List.drop_zero, List.length_append, List.length_take, List.length_drop, List.length_singleton, overL_len, emin, Nat.min_self, List.take_length]
  have w0 : IntKind.wrap .i64 ((m : Int) + ((1 : Nat) : Int)) = (m : Int) + 1 := wrap_id (by omega) (by omega)
  have w2 : IntKind.wrap .i64 ((m : Int) + 1 + (((l.length - (m + 3) : Nat)) : Int)) = ((l.length - 2 : Nat) : Int) := by
    rw [wrap_id (by omega) (by omega)]; omega
  simp only [w0, w2, Int.toNat_natCast, e1]
  refine ct (by omega) (ct (by omega) (ct (by omega) (ct (by omega) (cn (by omega) ?_))))
  by_cases hc : (m : Int) + 3 = (l.length : Int)
  · refine ce hc (ct (by omega) (ct (by omega) (ct (by omega) (ct (by omega) (ct (by omega) (ct (by omega) (ct (by omega) ?_)))))))
    have hd : l.drop (m + 3) = [] := List.drop_eq_nil_iff.2 (by omega)
    rw [hd, overL_past _ _ _ (by simp; omega)]
  · refine cn hc ?_
    repeat (refine ct (by first | omega | (simp; omega)) ?_)
    congr 1
    rw [overL_past (l.length - 2) _ _ (by simp only [overL_len, List.length_take]; omega)]
    apply List.ext_getElem?
    intro i
    rw [getElem?_overL]
    simp only [overL_len, List.length_drop, List.length_take, Nat.min_self]
    have hm2 : (l.take m).length = m := by simp; omega
    by_cases h1 : i < m
    · rw [if_neg (by omega), getElem?_overL, if_neg (by omega), List.getElem?_take, if_pos (by omega), List.getElem?_append_left (by omega), List.getElem?_take, if_pos h1]
    · rw [List.getElem?_append_right (by omega), hm2]
      by_cases h2 : i = m
      · subst h2
        rw [if_neg (by omega), getElem?_overL, if_pos (by simp; omega), Nat.sub_self]
        rfl
      · obtain ⟨j, rfl⟩ : ∃ j, i = m + 1 + j := ⟨i - m - 1, by omega⟩
        rw [show m + 1 + j - m = j + 1 by omega, List.getElem?_cons_succ, List.getElem?_drop]
        by_cases h3 : m + 1 + j < l.length - 2
        · rw [if_pos (by omega), show m + 1 + j - (m + 1) = j by omega, List.getElem?_drop, List.getElem?_take, if_pos (by omega), getElem?_overL, if_neg (by simp; omega)]
        · rw [if_neg (by omega), List.getElem?_eq_none (by simp only [overL_len, List.length_take]; omega), List.getElem?_eq_none (by simp only [List.length_drop]; omega)]

theorem delete2 (l : List Int) (m : Nat) (hm : m + 2 ≤ l.length) (hl : l.length ≤ 1000) : g_slices_Delete_Sint64_int64 l (m : Int) ((m : Int) + 2) = some (l.take m ++ l.drop (m + 2)) := by
  rw [g_slices_Delete_Sint64_int64, t_slices_Delete_Sint64_int64]
  have e3 : Int.toNat ((m : Int) + 2) = m + 2 := by omega
  have emin : min m l.length = m := by omega
  simp only [Int.toNat_natCast, e3, Nat.zero_add, List.drop_zero, List.length_append, List.length_take, List.length_drop, overL_len, emin, Nat.min_self, List.take_length]
  refine ct (by omega) (ct (by omega) (ct (by omega) (ct (by omega) (cn (by omega) ?_))))
  repeat (refine ct (by omega) ?_)
  rw [overL_past _ _ _ (by simp; omega)]

/-! one step -/
theorem clone_ok (l : List Int) (hl : l.length ≤ 1000) : g_slices_Clone_Sint64_int64 l = some l := by
  rw [g_slices_Clone_Sint64_int64, dec_t (by omega)]; rfl

/-- What a possible step makes of a strip. -/
def stepA (a : Str) (x : Sp) : Str :=
  if x.1 = 2 then (a.1.drop 1, a.2.drop 1) else
  if x.1 = 3 then (a.1.take (a.1.length - 1), a.2.take (a.1.length - 2)) else
  (a.1.take (x.2.toNat - 1) ++ (IntKind.wrap .i64 ((IntKind.wrap .i64 (a.1.getD (x.2.toNat - 1) 0 - a.1.getD x.2.toNat 0)) + a.1.getD (x.2.toNat + 1) 0)) :: a.1.drop (x.2.toNat + 2), a.2.take (x.2.toNat - 1) ++ a.2.drop (x.2.toNat + 1))

theorem can_inv {a : Str} (h : Shp a) {x : Sp} (hc : canB a x = true) : 2 ≤ a.1.length ∧ (x.1 = 2 ∨ (x.1 = 3 ∧ x.2 = (a.1.length : Int) - 1) ∨ (x.1 ≠ 2 ∧ x.1 ≠ 3 ∧ 1 ≤ x.2 ∧ x.2 ≤ (a.1.length : Int) - 2)) := by
  obtain ⟨h1, h2, h3⟩ := id h
  have hk := can_ok h x
  rw [hc, g_spec_l25Can, t_spec_l25Can] at hk
  by_cases hn : (a.1.length : Int) < 2
  · rw [dec_t hn] at hk; cases hk
  · rw [dec_f hn, cond_false] at hk
    refine ⟨by omega, ?_⟩
    by_cases e2 : x.1 = 2
    · exact .inl e2
    · right
      rw [beq_eq_false_iff_ne.2 e2, cond_false] at hk
      by_cases e3 : x.1 = 3
      · left
        refine ⟨e3, ?_⟩
        rw [beq_iff_eq.2 e3, cond_true, wrap_id (n := (a.1.length : Int) - 1) (by omega) (by omega)] at hk
        by_cases e4 : x.2 = (a.1.length : Int) - 1
        · exact e4
        · rw [beq_eq_false_iff_ne.2 e4] at hk; cases hk
      · right
        rw [beq_eq_false_iff_ne.2 e3, cond_false] at hk
        refine ⟨e2, e3, ?_⟩
        by_cases e1 : x.1 = 1
        · rw [beq_iff_eq.2 e1, cond_true, hwS, Option.bind_some, wrap_id (n := (a.1.length : Int) - 2) (by omega) (by omega)] at hk
          cases hw : (decide (x.2 ≥ 1) && decide (x.2 ≤ (a.1.length : Int) - 2))
          · rw [hw] at hk; cases hk
          · simp only [Bool.and_eq_true, decide_eq_true_eq] at hw
            exact ⟨by omega, hw.2⟩
        · rw [beq_eq_false_iff_ne.2 e1] at hk; cases hk

theorem idx_getD (l : List Int) (n : Nat) (h : n < l.length) : idx l (n : Int) = some (l.getD n 0) := by
  unfold idx
  rw [if_pos (by omega), Int.toNat_natCast, List.getElem?_eq_getElem h, List.getD_eq_getElem?_getD, List.getElem?_eq_getElem h]; rfl

theorem specApply {a : Str} (h : Shp a) {x : Sp} (hc : canB a x = true) : g_spec_l25Apply a x = some (stepA a x) := by
  obtain ⟨h1, h2, h3⟩ := id h
  obtain ⟨hn, hx⟩ := can_inv h hc
  rw [g_spec_l25Apply, t_spec_l25Apply]
  unfold stepA
  rcases hx with e | ⟨e, e'⟩ | ⟨e, e', e1, e2⟩
  · rw [if_pos e]
    refine ce e ?_
    simp only [List.length_nil, Nat.zero_add, List.nil_append, List.take_length, List.length_drop, Int.reduceToNat]
    repeat (refine ct (by omega) ?_)
    rfl
  · rw [if_neg (by omega), if_pos e]
    refine cn (by omega) (ce e ?_)
    have w1 : IntKind.wrap .i64 ((a.1.length : Int) - 1) = ((a.1.length - 1 : Nat) : Int) := by rw [wrap_id (by omega) (by omega)]; omega
    have w2 : IntKind.wrap .i64 ((a.1.length : Int) - 2) = ((a.1.length - 2 : Nat) : Int) := by rw [wrap_id (by omega) (by omega)]; omega
    simp only [w1, w2, Int.toNat_natCast, List.length_nil, Nat.zero_add, List.nil_append, List.drop_zero, List.length_take]
    repeat (refine ct (by omega) ?_)
    rfl
  · obtain ⟨m, hm⟩ : ∃ m : Nat, x.2 = (m : Int) + 1 := ⟨(x.2 - 1).toNat, by omega⟩
    rw [if_neg e, if_neg e']
    refine cn e (cn e' ?_)
    have w1 : IntKind.wrap .i64 (x.2 - 1) = (m : Int) := by rw [wrap_id (by omega) (by omega)]; omega
    have w2 : IntKind.wrap .i64 (x.2 + 1) = ((m + 2 : Nat) : Int) := by rw [wrap_id (by omega) (by omega)]; omega
    have w3 : IntKind.wrap .i64 (x.2 + 2) = ((m + 3 : Nat) : Int) := by rw [wrap_id (by omega) (by omega)]; omega
    have t1 : x.2.toNat = m + 1 := by omega
    have w0 : x.2 = ((m + 1 : Nat) : Int) := by omega
    simp only [w1, w2, w3]
    rw [w0]
    simp only [Int.toNat_natCast, idx_getD _ _ (show m < a.1.length by omega), idx_getD _ _ (show m + 1 < a.1.length by omega), idx_getD _ _ (show m + 2 < a.1.length by omega), Option.bind_some, List.length_nil, Nat.zero_add, List.nil_append, List.drop_zero, List.length_take, List.length_append, List.length_singleton, List.length_drop, List.take_length, Nat.add_sub_cancel]
    repeat (refine ct (by omega) ?_)
    simp only [List.append_assoc, List.singleton_append]

theorem implApply {a : Str} (h : Shp a) {x : Sp} (hc : canB a x = true) : g_impl_Strip_apply a x = some (stepA a x) := by
  obtain ⟨h1, h2, h3⟩ := id h
  obtain ⟨hn, hx⟩ := can_inv h hc
  rw [g_impl_Strip_apply, t_impl_Strip_apply, clone_ok _ (by omega), clone_ok _ (by omega), Option.bind_some, Option.bind_some]
  unfold stepA
  rcases hx with e | ⟨e, e'⟩ | ⟨e, e', e1, e2⟩
  · rw [if_pos e]
    refine ce e ?_
    simp only [List.take_length, Int.reduceToNat]
    repeat (refine ct (by omega) ?_)
    rfl
  · rw [if_neg (by omega), if_pos e]
    refine cn (by omega) (ce e ?_)
    have w0 : x.2 = ((a.1.length - 1 : Nat) : Int) := by omega
    have w2 : IntKind.wrap .i64 (x.2 - 1) = ((a.1.length - 2 : Nat) : Int) := by rw [wrap_id (by omega) (by omega)]; omega
    simp only [w2]
    rw [w0]
    simp only [Int.toNat_natCast, List.drop_zero]
    repeat (refine ct (by omega) ?_)
    rfl
  · obtain ⟨m, hm⟩ : ∃ m : Nat, x.2 = (m : Int) + 1 := ⟨(x.2 - 1).toNat, by omega⟩
    rw [if_neg e, if_neg e']
    refine cn e (cn e' ?_)
    have w1 : IntKind.wrap .i64 (x.2 - 1) = (m : Int) := by rw [wrap_id (by omega) (by omega)]; omega
    have w2 : IntKind.wrap .i64 (x.2 + 1) = (m : Int) + 2 := by rw [wrap_id (by omega) (by omega)]; omega
    have w3 : IntKind.wrap .i64 (x.2 + 2) = (m : Int) + 3 := by rw [wrap_id (by omega) (by omega)]; omega
    have w0 : x.2 = ((m + 1 : Nat) : Int) := by omega
    have i2 : idx a.1 ((m : Int) + 2) = some (a.1.getD (m + 2) 0) := idx_getD a.1 (m + 2) (by omega)
    simp only [w1, w2, w3]
    rw [w0]
    simp only [Int.toNat_natCast, idx_getD _ _ (show m < a.1.length by omega), idx_getD _ _ (show m + 1 < a.1.length by omega), i2, Option.bind_some, replace3 a.1 m _ (by omega) (by omega), delete2 a.2 m (by omega) (by omega), decide_true, cond_true, Nat.add_sub_cancel]

theorem stepA_length {a : Str} (h : Shp a) (x : Sp) : (stepA a x).1.length ≤ 100 ∧ (stepA a x).2.length ≤ 100 := by
  obtain ⟨h1, h2, h3⟩ := id h
  unfold stepA
  split
  · simp; omega
  · split
    · simp; omega
    · simp; omega

/-! step by step, until none is possible -/
theorem stepA_shp {a : Str} (h : Shp a) {x : Sp} (hc : canB a x = true) : Shp (stepA a x) ∧ (stepA a x).1.length < a.1.length := by
  obtain ⟨h1, h2, h3⟩ := id h
  obtain ⟨hn, hx⟩ := can_inv h hc
  unfold stepA
  rcases hx with e | ⟨e, e'⟩ | ⟨e, e', e1, e2⟩
  · rw [if_pos e]
    simp only [Shp, List.length_drop]
    omega
  · rw [if_neg (by omega), if_pos e]
    simp only [Shp, List.length_take]
    omega
  · rw [if_neg e, if_neg e']
    simp only [Shp, List.length_append, List.length_take, List.length_cons, List.length_drop]
    omega


end Go.Proofs.Ytpabholjoblkbaa
