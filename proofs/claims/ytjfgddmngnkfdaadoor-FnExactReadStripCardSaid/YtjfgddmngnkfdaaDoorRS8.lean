/- The law on ReadStrip: what it computes is true. No conditions. -/
import Derived.Test.YtjfgddmngnkfdaaDoorRS7
namespace Go.Proofs.YtjfgddmngnkfdaaDoor
open Go.Vai
/-! marks -/
theorem marks_len : ∀ (n : Nat) (k : Int), (marks k n).length = n
  | 0, _ => rfl
  | n + 1, k => by simp [marks, marks_len n]

theorem mark_Int64S_loop : ∀ (s q : List Int) (k : Int), q.length + s.length ≤ 1048576 → 0 ≤ k → k + s.length ≤ 4000000000 →
    w_laws_markInt64S_3 (m_laws_markInt64S_3 (q ++ s) k ((q.length : Nat) : Int) (q ++ s)) = some (.inl (d_laws_markInt64S_3_0 (k + s.length) (q ++ marks k s.length)))
  | [], q, k, h1, h2, h3 => by
    rw [wq_laws_markInt64S_3, u_laws_markInt64S_3, dec_f (by simp), cond_false]
    simp [marks]; rfl
  | y :: s, q, k, h1, h2, h3 => by
    simp only [List.length_cons] at h1 h3
    rw [wq_laws_markInt64S_3, u_laws_markInt64S_3, dec_t (by simp; omega), cond_true, ix rfl]
    simp only [Option.bind_some]
    rw [set_mid rfl, wrap_id (n := k + 1) (by omega) (by omega), wrap_id (by omega) (by omega), show ((q.length : Nat) : Int) + 1 = (((q ++ [k]).length : Nat) : Int) by simp]
    refine (mark_Int64S_loop s (q ++ [k]) (k + 1) (by simp; omega) (by omega) (by omega)).trans ?_
    simp only [List.length_cons, marks, List.append_assoc, List.singleton_append]
    rw [show k + 1 + (s.length : Int) = k + ((s.length + 1 : Nat) : Int) by omega]

theorem mark_Int64S (l : List Int) (hl : l.length ≤ 1048576) (k : Int) (h0 : 0 ≤ k) (h1 : k ≤ 1000000000) : g_laws_markInt64S l k = some (k + l.length, marks k l.length) := by
  have h' : w_laws_markInt64S_3 (m_laws_markInt64S_3 l k 0 l) = _ := mark_Int64S_loop l [] k (by simpa using hl) h0 (by omega)
  rw [g_laws_markInt64S, t_laws_markInt64S, h']; rfl

theorem held_Int64S_loop (l : List Int) (hl : l.length ≤ 1048576) : ∀ (n : Nat) (p : List Int) (k : Int), l = p ++ marks k n → 0 ≤ k → k + n ≤ 4000000000 →
    w_laws_heldInt64S_3 (m_laws_heldInt64S_3 l k ((p.length : Nat) : Int)) = some (.inr (.inl (d_laws_heldInt64S_3_1 (k + n))))
  | 0, p, k, h, h0, h1 => by
    rw [wq_laws_heldInt64S_3, u_laws_heldInt64S_3, lt_end h, cond_false]
    simp; rfl
  | n + 1, p, k, h, h0, h1 => by
    rw [marks] at h
    rw [wq_laws_heldInt64S_3, u_laws_heldInt64S_3, lt_in h, cond_true, ix h]
    simp only [Option.bind_some]
    rw [show (k != k) = false by simp, cond_false, wrap_id (n := k + 1) (by omega) (by omega), wr h (by omega)]
    refine (held_Int64S_loop l hl n (p ++ [k]) (k + 1) (nxt h) (by omega) (by omega)).trans ?_
    rw [show k + 1 + (n : Int) = k + ((n + 1 : Nat) : Int) by omega]

theorem held_Int64S (n : Nat) (k : Int) (hn : n ≤ 1048576) (h0 : 0 ≤ k) (h1 : k ≤ 1000000000) : g_laws_heldInt64S (marks k n) k = some (k + n) := by
  have h' : w_laws_heldInt64S_3 (m_laws_heldInt64S_3 (marks k n) k 0) = _ := held_Int64S_loop (marks k n) (by rw [marks_len]; exact hn) n [] k rfl h0 (by omega)
  rw [g_laws_heldInt64S, t_laws_heldInt64S, h']; rfl


theorem law_ReadStrip (s : ByteArray) : g_laws_FnExactReadStrip s = some true := by
  rw [g_laws_FnExactReadStrip, t_laws_FnExactReadStrip]
  by_cases hs : s.size ≤ 1048576
  · obtain ⟨⟨⟨L, K⟩, b⟩, h1, h2, h3, h4⟩ := read_same s hs
    simp only at h3 h4
    have he : g_laws_eqStrip (L, K) (L, K) = some true := eqStrip_ok (L, K) (by simp only; omega) (by simp only; omega)
    have hm : g_laws_markStrip L K 1 = some (1 + (L.length : Int) + (K.length : Int), marks 1 L.length, marks (1 + (L.length : Int)) K.length) := by
      rw [g_laws_markStrip, t_laws_markStrip]
      simp only [decide_true, cond_true, mark_Int64S L (by omega) 1 (by omega) (by omega), Option.bind_some, mark_Int64S K (by omega) (1 + (L.length : Int)) (by omega) (by omega)]
    have hh : g_laws_heldStrip (marks 1 L.length, marks (1 + (L.length : Int)) K.length) 1 = some (1 + (L.length : Int) + (K.length : Int)) := by
      rw [g_laws_heldStrip, t_laws_heldStrip, held_Int64S _ 1 (by omega) (by omega) (by omega), Option.bind_some, dec_f (by omega), cond_false]
      rw [held_Int64S _ _ (by omega) (by omega) (by omega), Option.bind_some, dec_f (by omega), cond_false]
    rw [dec_f (p := ((s.size : Nat) : Int) > 1048576) (by omega), cond_false]
    simp only [h1, h2, Option.bind_some, he, beq_self_eq_true, Bool.not_true, cond_false, decide_true, cond_true, hm, hh]
    rw [dec_f (by omega)]
    simp
  · rw [dec_t (p := ((s.size : Nat) : Int) > 1048576) (by omega)]; rfl
end Go.Proofs.YtjfgddmngnkfdaaDoor
