/- The law's text. No conditions. -/
import Derived.Test.YtpabholjoblkbaaRS4
namespace Go.Proofs.Ytpabholjoblkbaa
open Go.Vai
/-! the strip as a law's input -/
theorem szStrip_ok (a : List Int × List Int) (ha : a.1.length ≤ 9223372036854775807) (hb : a.2.length ≤ 9223372036854775807) : ∃ y, g_laws_szStrip a 1048576 = some y ∧ (y < 0 ∨ (a.1.length ≤ 1048576 ∧ a.2.length ≤ 1048576 ∧ y = 1048576 - a.1.length - a.2.length)) := by
  rw [g_laws_szStrip, t_laws_szStrip, sz_ok _ ha _ (by omega) (by omega), Option.bind_some]
  by_cases h1 : (1048576 : Int) < a.1.length
  · rw [if_pos h1]; exact ⟨-1, rfl, .inl (by omega)⟩
  · rw [if_neg h1, dec_f (by omega), cond_false, sz_ok _ hb _ (by omega) (by omega), Option.bind_some]
    by_cases h2 : (1048576 : Int) - a.1.length < a.2.length
    · rw [if_pos h2]; exact ⟨-1, rfl, .inl (by omega)⟩
    · rw [if_neg h2, dec_f (by omega), cond_false]; exact ⟨_, rfl, .inr ⟨by omega, by omega, rfl⟩⟩
theorem toStrip_ok (a : List Int × List Int) (h1 : a.1.length ≤ 1048576) (h2 : a.2.length ≤ 1048576) : g_laws_toStrip a = some a := by
  rw [g_laws_toStrip, t_laws_toStrip, to_Int64S _ h1, Option.bind_some, to_Int64S _ h2]; rfl
theorem eqStrip_ok (a : List Int × List Int) (h1 : a.1.length ≤ 1048576) (h2 : a.2.length ≤ 1048576) : g_laws_eqStrip a a = some true := by
  rw [g_laws_eqStrip, t_laws_eqStrip, eq_Int64S _ _ (by omega), Option.bind_some, eq_Int64S _ _ (by omega)]
  simp
theorem markStrip_ok (a : List Int × List Int) (h1 : a.1.length ≤ 1048576) (h2 : a.2.length ≤ 1048576) : g_laws_markStrip a.1 a.2 1 = some (1 + (a.1.length : Int) + (a.2.length : Int), (marks 1 a.1.length, marks (1 + (a.1.length : Int)) a.2.length)) := by
  rw [g_laws_markStrip, t_laws_markStrip, dec_t rfl, dec_t rfl, cond_true, mark_Int64S _ h1 1 (by omega) (by omega), Option.bind_some, cond_true, mark_Int64S _ h2 _ (by show 0 ≤ 1 + (a.1.length : Int); omega) (by show 1 + (a.1.length : Int) ≤ 1000000000; omega)]
  rfl

/-! lists of steps: what is written, what is held -/
def mkSp (k : Int) : Sp := (k, k + 1)
def mkSps : Int → Nat → List Sp
  | _, 0 => []
  | k, n + 1 => mkSp k :: mkSps (k + 1 + 1) n
theorem mkSps_length : ∀ (n : Nat) (k : Int), (mkSps k n).length = n
  | 0, _ => rfl
  | n + 1, k => by simp [mkSps, mkSps_length n]
theorem w1 {k : Int} (h0 : 0 ≤ k) (h1 : k ≤ 1000000) : IntKind.wrap .i64 (k + 1) = k + 1 := wrap_id (by omega) (by omega)

theorem markSp_loop : ∀ (s q : List Sp) (k : Int), q.length + s.length ≤ 1000 → 0 ≤ k → k + 2 * s.length ≤ 900000 →
    w_laws_markStripStepS_3 (m_laws_markStripStepS_3 (q ++ s) k ((q.length : Nat) : Int) (q ++ s)) = some (.inl (d_laws_markStripStepS_3_0 (k + 2 * s.length) (q ++ mkSps k s.length)))
  | [], q, k, h1, h2, h3 => by
    rw [wq_laws_markStripStepS_3, u_laws_markStripStepS_3, lt_end rfl, cond_false]
    simp [mkSps]; rfl
  | y :: s, q, k, h1, h2, h3 => by
    simp only [List.length_cons] at h1 h3
    rw [wq_laws_markStripStepS_3, u_laws_markStripStepS_3, lt_in rfl, cond_true]
    simp only [im, sm, Option.bind_some]
    rw [w1 (k := k) (by omega) (by omega), w1 (k := k + 1) (by omega) (by omega)]
    rw [w1 (k := ((q.length : Nat) : Int)) (by omega) (by omega)]
    have IH := markSp_loop s (q ++ [mkSp k]) (k + 1 + 1) (by simp; omega) (by omega) (by omega)
    have hq : (((q ++ [mkSp k]).length : Nat) : Int) = (q.length : Int) + 1 := by simp
    rw [hq, List.append_assoc, List.append_assoc] at IH
    refine Eq.trans (Eq.trans ?_ IH) ?_
    · rfl
    · rw [show k + 1 + 1 + 2 * (s.length : Int) = k + 2 * (((y :: s).length : Nat) : Int) by simp; omega]
      rfl

theorem heldSp_loop (l : List Sp) (hl : l.length ≤ 1000) : ∀ (n : Nat) (p : List Sp) (k : Int), l = p ++ mkSps k n → 0 ≤ k → k + 2 * n ≤ 900000 →
    w_laws_heldStripStepS_3 (m_laws_heldStripStepS_3 l k ((p.length : Nat) : Int)) = some (.inr (.inl (d_laws_heldStripStepS_3_1 (k + 2 * n))))
  | 0, p, k, h, h1, h2 => by
    rw [wq_laws_heldStripStepS_3, u_laws_heldStripStepS_3, lt_end h, cond_false]
    simp; rfl
  | n + 1, p, k, h, h1, h2 => by
    rw [mkSps] at h
    rw [wq_laws_heldStripStepS_3, u_laws_heldStripStepS_3, lt_in h, cond_true]
    simp only [ix h, Option.bind_some]
    rw [w1 (k := k) (by omega) (by omega), w1 (k := k + 1) (by omega) (by omega)]
    simp only [mkSp, bne_self_eq_false, cond_false]
    rw [wr h (by omega)]
    refine (heldSp_loop l hl n (p ++ [mkSp k]) _ (nxt h) (by omega) (by omega)).trans ?_
    rw [show k + 1 + 1 + 2 * (n : Int) = k + 2 * ((n + 1 : Nat) : Int) by omega]

theorem markSp_ok (l : List Sp) (hl : l.length ≤ 1000) : g_laws_markStripStepS l 1 = some (1 + 2 * (l.length : Int), mkSps 1 l.length) := by
  have h' : w_laws_markStripStepS_3 (m_laws_markStripStepS_3 l 1 0 l) = _ := markSp_loop l [] 1 (by simpa using hl) (by omega) (by omega)
  rw [g_laws_markStripStepS, t_laws_markStripStepS, h']; rfl
theorem heldSp_ok (n : Nat) (hn : n ≤ 1000) : g_laws_heldStripStepS (mkSps 1 n) 1 = some (1 + 2 * (n : Int)) := by
  have h' : w_laws_heldStripStepS_3 (m_laws_heldStripStepS_3 (mkSps 1 n) 1 0) = _ := heldSp_loop (mkSps 1 n) (by rw [mkSps_length]; exact hn) n [] 1 rfl (by omega) (by omega)
  rw [g_laws_heldStripStepS, t_laws_heldStripStepS, h']; rfl

theorem eqSps_loop (l : List Sp) (hl : l.length ≤ 1000) : ∀ (r p : List Sp), l = p ++ r → w_laws_eqStripStepS_5 (m_laws_eqStripStepS_5 l l ((p.length : Nat) : Int)) = some (.inr (.inl d_laws_eqStripStepS_5_1))
  | [], p, h => by
    rw [wq_laws_eqStripStepS_5, u_laws_eqStripStepS_5, lt_end h, cond_false]; rfl
  | x :: r, p, h => by
    rw [wq_laws_eqStripStepS_5, u_laws_eqStripStepS_5, lt_in h, cond_true, ix h]
    simp only [Option.bind_some]
    rw [g_laws_eqStripStep, t_laws_eqStripStep, bne_self_eq_false, bne_self_eq_false, cond_false, cond_false, Option.bind_some, Bool.not_true, cond_false, wr h (by omega)]
    exact eqSps_loop l hl r (p ++ [x]) (nxt h)
theorem eqSps_self (l : List Sp) (hl : l.length ≤ 1000) : g_laws_eqStripStepS l l = some true := by
  have h' : w_laws_eqStripStepS_5 (m_laws_eqStripStepS_5 l l 0) = _ := eqSps_loop l hl l [] rfl
  rw [g_laws_eqStripStepS, t_laws_eqStripStepS, bne_self_eq_false, cond_false, h']; rfl

/-! the law -/
theorem markStripK (a : List Int × List Int) (h1 : a.1.length ≤ 1000) (h2 : a.2.length ≤ 1000) (k : Int) (h0 : 0 ≤ k) (hk : k ≤ 1000000) : g_laws_markStrip a.1 a.2 k = some (k + (a.1.length : Int) + (a.2.length : Int), (marks k a.1.length, marks (k + (a.1.length : Int)) a.2.length)) := by
  rw [g_laws_markStrip, t_laws_markStrip, dec_t rfl, dec_t rfl, cond_true, mark_Int64S _ (by omega) k (by omega) (by omega), Option.bind_some, cond_true, mark_Int64S _ (by omega) _ (by show 0 ≤ k + (a.1.length : Int); omega) (by show k + (a.1.length : Int) ≤ 1000000000; omega)]
  rfl
theorem heldStripK (n1 n2 : Nat) (h1 : n1 ≤ 1000) (h2 : n2 ≤ 1000) (k : Int) (h0 : 0 ≤ k) (hk : k ≤ 1000000) : g_laws_heldStrip (marks k n1, marks (k + (n1 : Int)) n2) k = some (k + (n1 : Int) + (n2 : Int)) := by
  rw [g_laws_heldStrip, t_laws_heldStrip, held_Int64S n1 k (by omega) (by omega) (by omega), Option.bind_some, dec_f (by omega), cond_false, held_Int64S n2 _ (by omega) (by omega) (by omega), Option.bind_some, dec_f (by omega)]
  rfl

noncomputable def redS (a : Str) : List Sp × Str := cond (okS a) (redL 20 [] a) ([], ([], []))
theorem redS_length (a : Str) : (redS a).1.length ≤ 1000 ∧ (redS a).2.1.length ≤ 1000 ∧ (redS a).2.2.length ≤ 1000 := by
  unfold redS
  cases h : okS a
  · exact ⟨Nat.zero_le _, Nat.zero_le _, Nat.zero_le _⟩
  · obtain ⟨k1, k2, k3, k4⟩ := redL_len 20 [] a (okS_len h)
    simp only [List.length_nil, cond_true] at k1 ⊢
    omega
theorem spec_redS (a : Str) (h1 : a.1.length ≤ 1048576) (h2 : a.2.length ≤ 1048576) : g_spec_ReduceStrip a = some (redS a) := by
  rw [g_spec_ReduceStrip, t_spec_ReduceStrip, spec_ok a h1 h2, Option.bind_some]
  unfold redS
  cases h : okS a
  · rfl
  · rw [Bool.not_true, cond_false, specReduce (okS_len h)]; rfl
theorem impl_redS (a : Str) (h1 : a.1.length ≤ 1048576) (h2 : a.2.length ≤ 1048576) : g_impl_ReduceStrip a = some (redS a) := by
  rw [g_impl_ReduceStrip, t_impl_ReduceStrip, impl_ok a h1 h2, Option.bind_some]
  unfold redS
  cases h : okS a
  · rfl
  · rw [Bool.not_true, cond_false, implReduce (okS_len h)]; rfl

theorem law_ReduceStrip (a : Str) (ha : a.1.length ≤ 9223372036854775807) (hb : a.2.length ≤ 9223372036854775807) : g_laws_FnExactReduceStrip a = some true := by
  obtain ⟨y, hy, hc⟩ := szStrip_ok a ha hb
  rw [g_laws_FnExactReduceStrip, t_laws_FnExactReduceStrip, hy, Option.bind_some]
  rcases hc with h | ⟨h1, h2, h3⟩
  · rw [dec_t h]; rfl
  · by_cases hn : y < 0
    · rw [dec_t hn]; rfl
    · obtain ⟨k0, k1, k2⟩ := redS_length a
      rw [dec_f hn, cond_false]
      simp only [toStrip_ok a h1 h2, eqStrip_ok a h1 h2, markStrip_ok a h1 h2, spec_redS a h1 h2, impl_redS a h1 h2, Option.bind_some, eqSps_self _ k0, eqStrip_ok (redS a).2 (by omega) (by omega), markSp_ok _ k0, heldSp_ok _ k0,
        markStripK (redS a).2 k1 k2 (1 + 2 * ((redS a).1.length : Int)) (by omega) (by omega), heldStripK _ _ k1 k2 (1 + 2 * ((redS a).1.length : Int)) (by omega) (by omega),
        decide_true, Bool.not_true, cond_true, cond_false, bne_self_eq_false]
      rw [dec_f (show ¬ (1 + (a.1.length : Int) + a.2.length < 0) by omega), dec_f (show ¬ (1 + 2 * ((redS a).1.length : Int) < 0) by omega), dec_f (show ¬ (1 + 2 * ((redS a).1.length : Int) + ((redS a).2.1.length : Int) + ((redS a).2.2.length : Int) < 0) by omega)]
      rfl

end Go.Proofs.Ytpabholjoblkbaa
