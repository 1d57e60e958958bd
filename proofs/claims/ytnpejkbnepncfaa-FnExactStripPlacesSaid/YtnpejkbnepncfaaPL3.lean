/- The plain law on StripPlaces. No conditions. -/
import Derived.Test.YtnpejkbnepncfaaPL2
import Derived.Test.YtnpejkbnepncfaaPK
namespace Go.Proofs.Ytnpejkbnepncfaa
open Go.Vai

/-! toInt64S -/
theorem to_Int64S_loop (l : List Int) (hl : l.length ≤ 4611686018427387904) : ∀ (r p q s : List Int), l = p ++ r → q.length = p.length → s.length = r.length →
    w_laws_toInt64S_4 (m_laws_toInt64S_4 l (q ++ s) ((p.length : Nat) : Int)) = some (.inl (((q ++ r, ()), ()), (), ()))
  | [], p, q, s, h, hq, hs => by
    rw [wq_laws_toInt64S_4, u_laws_toInt64S_4, lt_end h, cond_false]
    rw [List.length_eq_zero_iff.1 hs]; rfl
  | x :: r, p, q, [], h, hq, hs => by cases hs
  | x :: r, p, q, y :: s, h, hq, hs => by
    rw [wq_laws_toInt64S_4, u_laws_toInt64S_4, lt_in h, cond_true, ix h, ← hq, ix (rfl : q ++ y :: s = q ++ y :: s)]
    simp only [Option.bind_some]
    rw [set_mid rfl, hq, wr h hl]
    have := to_Int64S_loop l hl r (p ++ [x]) (q ++ [x]) s (nxt h) (by simp [hq]) (by simpa using hs)
    simpa using this

theorem to_Int64S (l : List Int) (hl : l.length ≤ 1048576) : g_laws_toInt64S l = some l := by
  have h := to_Int64S_loop l (by omega) l [] [] (List.replicate l.length 0) rfl rfl (by simp)
  rw [g_laws_toInt64S, t_laws_toInt64S, dec_t (by omega), dec_t (by omega), dec_t (by omega)]
  simp only [cond_true]
  rw [Int.toNat_natCast]
  have h' : w_laws_toInt64S_4 (((l, ()), (List.replicate l.length (0 : Int), ()), ((0 : Int), ()), ()), (), ()) = some (.inl (((l, ()), ()), (), ())) := h
  rw [h']; rfl

/-! eqInt64S -/
theorem eq_Int64S_loop (a b : List Int) (hl : a.length ≤ 4611686018427387904) : ∀ (r p q s : List Int), a = p ++ r → b = q ++ s → q.length = p.length → s.length = r.length →
    w_laws_eqInt64S_5 (m_laws_eqInt64S_5 a b ((p.length : Nat) : Int)) = some (if r = s then .inr (.inl ((((), ()), ()), (), ())) else .inl (((false, ()), ()), (), ()))
  | [], p, q, s, h, h', hq, hs => by
    rw [wq_laws_eqInt64S_5, u_laws_eqInt64S_5, lt_end h, cond_false]
    rw [List.length_eq_zero_iff.1 hs]; rfl
  | x :: r, p, q, [], h, h', hq, hs => by cases hs
  | x :: r, p, q, y :: s, h, h', hq, hs => by
    rw [wq_laws_eqInt64S_5, u_laws_eqInt64S_5, lt_in h, cond_true, ix h, ← hq, ix h']
    simp only [Option.bind_some]
    by_cases hxy : x = y
    · rw [show (x != y) = false by simp [hxy], cond_false, hq, wr h hl]
      have := eq_Int64S_loop a b hl r (p ++ [x]) (q ++ [y]) s (nxt h) (nxt h') (by simp [hq]) (by simpa using hs)
      refine this.trans ?_
      by_cases e : r = s
      · rw [if_pos e, if_pos (by rw [hxy, e])]
      · rw [if_neg e, if_neg (fun e' => e (List.cons.inj e').2)]
    · rw [show (x != y) = true by simp [hxy], cond_true]
      refine Eq.trans ?_ (congrArg some (if_neg (fun e' => hxy (List.cons.inj e').1)).symm)
      rfl

theorem eq_Int64S (a b : List Int) (hl : a.length ≤ 4611686018427387904) : g_laws_eqInt64S a b = some (decide (a = b)) := by
  rw [g_laws_eqInt64S, t_laws_eqInt64S]
  by_cases h : a.length = b.length
  · rw [show (((a.length : Nat) : Int) != ((b.length : Nat) : Int)) = false by simp [h], cond_false]
    have h' : w_laws_eqInt64S_5 (((a, ()), (b, ()), ((0 : Int), ()), ()), (), ()) = _ := eq_Int64S_loop a b hl a [] [] b rfl rfl rfl h.symm
    rw [h']
    by_cases e : a = b
    · rw [if_pos e, decide_eq_true e]; rfl
    · rw [if_neg e, decide_eq_false e]; rfl
  · rw [show (((a.length : Nat) : Int) != ((b.length : Nat) : Int)) = true by simp; omega, cond_true, decide_eq_false (fun e => h (by rw [e]))]


/-! markInt64S, heldInt64S -/
theorem mark_Int64S_loop (l : List Int) (hl : l.length ≤ 1048576) : ∀ (s q : List Int) (x0 : List Int) (k : Int), x0.length = l.length → l.length = q.length + s.length → 0 ≤ k → k + s.length ≤ 4000000000 →
    w_laws_markInt64S_3 (m_laws_markInt64S_3 x0 k ((q.length : Nat) : Int) (q ++ s)) = some (.inl (((k + s.length, ()), ()), (), (q ++ marks k s.length, ())))
  | [], q, x0, k, h0, h1, h2, h3 => by
    have h1 : l.length = q.length + 0 := h1
    rw [wq_laws_markInt64S_3, u_laws_markInt64S_3, dec_f (by omega), cond_false]
    simp [marks]; rfl
  | y :: s, q, x0, k, h0, h1, h2, h3 => by
    simp only [List.length_cons] at h1 h3
    have hx : q.length < x0.length := by omega
    rw [wq_laws_markInt64S_3, u_laws_markInt64S_3, dec_t (by omega), cond_true, idx_nat, List.getElem?_eq_getElem hx]
    simp only [Option.bind_some]
    rw [set_mid rfl, wrap_id (n := k + 1) (by omega) (by omega), wrap_id (by omega) (by omega), show ((q.length : Nat) : Int) + 1 = (((q ++ [k]).length : Nat) : Int) by simp]
    refine (mark_Int64S_loop l hl s (q ++ [k]) _ (k + 1) ?_ (by simp; omega) (by omega) (by omega)).trans ?_
    · split <;> simp [h0]
    · simp only [List.length_cons, marks, List.append_assoc, List.singleton_append]
      rw [show k + 1 + (s.length : Int) = k + ((s.length + 1 : Nat) : Int) by omega]

theorem mark_Int64S (l : List Int) (hl : l.length ≤ 1048576) (k : Int) (h0 : 0 ≤ k) (h1 : k ≤ 1000000000) : g_laws_markInt64S l k = some (k + l.length, marks k l.length) := by
  have h' : w_laws_markInt64S_3 (((l, ()), (k, ()), ((0 : Int), ()), ()), (), (l, ())) = _ := mark_Int64S_loop l hl l [] l k rfl (by simp) h0 (by omega)
  rw [g_laws_markInt64S, t_laws_markInt64S, h']; rfl

theorem held_Int64S_loop (l : List Int) (hl : l.length ≤ 1048576) : ∀ (n : Nat) (p : List Int) (k : Int), l = p ++ marks k n → 0 ≤ k → k + n ≤ 4000000000 →
    w_laws_heldInt64S_3 (m_laws_heldInt64S_3 l k ((p.length : Nat) : Int)) = some (.inr (.inl (((k + n, ()), ((), ()), ()), (), ())))
  | 0, p, k, h, h0, h1 => by
    rw [wq_laws_heldInt64S_3, u_laws_heldInt64S_3, lt_end h, cond_false]
    simp; rfl
  | n + 1, p, k, h, h0, h1 => by
    rw [marks] at h
    rw [wq_laws_heldInt64S_3, u_laws_heldInt64S_3, lt_in h, cond_true, ix h]
    simp only [Option.bind_some]
    rw [show (k != k) = false by simp, cond_false, wrap_id (n := k + 1) (by omega) (by omega), wr h (by omega)]
    refine (held_Int64S_loop l hl n (p ++ [k]) (k + 1) (nxt h) (by omega) (by omega)).trans ?_
    rw [show k + 1 + (n : Int) = k + ((n + 1 : Nat) : Int) by omega]

theorem held_Int64S (n : Nat) (k : Int) (hn : n ≤ 1048576) (h0 : 0 ≤ k) (h1 : k ≤ 1000000000) : g_laws_heldInt64S (marks k n) k = some (k + n) := by
  have h' : w_laws_heldInt64S_3 (((marks k n, ()), (k, ()), ((0 : Int), ()), ()), (), ()) = _ := held_Int64S_loop (marks k n) (by rw [marks_length]; exact hn) n [] k rfl h0 (by omega)
  rw [g_laws_heldInt64S, t_laws_heldInt64S, h']; rfl

end Go.Proofs.Ytnpejkbnepncfaa
