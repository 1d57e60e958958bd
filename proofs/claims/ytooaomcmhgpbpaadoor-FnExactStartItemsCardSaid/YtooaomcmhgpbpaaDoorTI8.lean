/- The plain law on StartItems: held, and the law. No conditions. -/
import Derived.Test.YtooaomcmhgpbpaaDoorTI7
namespace Go.Proofs.YtooaomcmhgpbpaaDoor
open Go.Vai

theorem mkIs_length : ∀ (n : Nat) (k : Int), (mkIs k n).length = n
  | 0, _ => rfl
  | n + 1, k => by simp [mkIs, mkIs_length n]

theorem heldI_loop (l : List It) (hl : l.length ≤ 1000) : ∀ (n : Nat) (p : List It) (k : Int), l = p ++ mkIs k n → 1 ≤ k → k + 12 * n ≤ 900000 →
    w_laws_heldItemS_3 (m_laws_heldItemS_3 l k ((p.length : Nat) : Int)) = some (.inr (.inl (d_laws_heldItemS_3_1 (k + 12 * n))))
  | 0, p, k, h, h1, h2 => by
    rw [wq_laws_heldItemS_3, u_laws_heldItemS_3, lt_end h, cond_false]
    simp; rfl
  | n + 1, p, k, h, h1, h2 => by
    rw [mkIs] at h
    rw [wq_laws_heldItemS_3, u_laws_heldItemS_3, lt_in h, cond_true]
    simp only [ix h, Option.bind_some]
    rw [markText_ok h1 (by omega), Option.bind_some]
    rw [w1 (k := k) (by omega) (by omega), w1 (k := k + 1) (by omega) (by omega), w1 (k := k + 1 + 1) (by omega) (by omega), w1 (k := k + 1 + 1 + 1) (by omega) (by omega), w1 (k := k + 1 + 1 + 1 + 1) (by omega) (by omega),
      w1 (k := k + 1 + 1 + 1 + 1 + 1) (by omega) (by omega), w1 (k := k + 1 + 1 + 1 + 1 + 1 + 1) (by omega) (by omega), w1 (k := k + 1 + 1 + 1 + 1 + 1 + 1 + 1) (by omega) (by omega), w1 (k := k + 1 + 1 + 1 + 1 + 1 + 1 + 1 + 1) (by omega) (by omega),
      w1 (k := k + 1 + 1 + 1 + 1 + 1 + 1 + 1 + 1 + 1) (by omega) (by omega), w1 (k := k + 1 + 1 + 1 + 1 + 1 + 1 + 1 + 1 + 1 + 1) (by omega) (by omega), w1 (k := k + 1 + 1 + 1 + 1 + 1 + 1 + 1 + 1 + 1 + 1 + 1) (by omega) (by omega)]
    simp only [mkI, beq_self_eq_true, Bool.not_true, cond_false, bne_self_eq_false]
    rw [wr h (by omega)]
    refine (heldI_loop l hl n (p ++ [mkI k]) _ (nxt h) (by omega) (by omega)).trans ?_
    rw [show k + 1 + 1 + 1 + 1 + 1 + 1 + 1 + 1 + 1 + 1 + 1 + 1 + 12 * (n : Int) = k + 12 * ((n + 1 : Nat) : Int) by omega]

theorem markI_ok (l : List It) (hl : l.length ≤ 1000) : g_laws_markItemS l 1 = some (1 + 12 * (l.length : Int), mkIs 1 l.length) := by
  have h' : w_laws_markItemS_3 (m_laws_markItemS_3 l 1 0 l) = _ := markI_loop l [] 1 (by simpa using hl) (by omega) (by omega)
  rw [g_laws_markItemS, t_laws_markItemS, h']; rfl
theorem heldI_ok (n : Nat) (hn : n ≤ 1000) : g_laws_heldItemS (mkIs 1 n) 1 = some (1 + 12 * (n : Int)) := by
  have h' : w_laws_heldItemS_3 (m_laws_heldItemS_3 (mkIs 1 n) 1 0) = _ := heldI_loop (mkIs 1 n) (by rw [mkIs_length]; exact hn) n [] 1 rfl (by omega) (by omega)
  rw [g_laws_heldItemS, t_laws_heldItemS, h']; rfl

theorem strt_length (s : Int) : (strt s).1.length ≤ 8 := by
  unfold strt
  cases (decide (1 ≤ s) && decide (s ≤ 1000))
  · exact Nat.zero_le _
  · exact Nat.le_refl 8

theorem law_StartItems (s : Int) : g_laws_FnExactStartItems s = some true := by
  rw [g_laws_FnExactStartItems, t_laws_FnExactStartItems]
  have hl := strt_length s
  simp only [spec_start, impl_start, Option.bind_some, eqItems_self _ (show (strt s).1.length ≤ 1048576 by omega), markI_ok _ (show (strt s).1.length ≤ 1000 by omega), heldI_ok _ (show (strt s).1.length ≤ 1000 by omega),
    Bool.not_true, cond_true, cond_false, bne_self_eq_false, decide_true]
  rw [dec_f (show ¬ (1 + 12 * ((strt s).1.length : Int) < 0) by omega)]
  rfl

end Go.Proofs.YtooaomcmhgpbpaaDoor
