/- The law's text. No conditions. -/
import Derived.Test.YtpabholjoblkbaaAS4
namespace Go.Proofs.Ytpabholjoblkbaa
open Go.Vai
/-! the strip as a law's input -/
theorem szStrip_ok (a : List Int × List Int) (ha : a.1.length ≤ 9223372036854775807) (hb : a.2.length ≤ 9223372036854775807) : ∃ y, g_laws_szStrip a 1048576 = some y ∧ (y < 0 ∨ (a.1.length ≤ 1048576 ∧ a.2.length ≤ 1048576 ∧ y = 1048576 - a.1.length - a.2.length)) := by
  rw [g_laws_szStrip, t_laws_szStrip, sz_ok _ ha _ (by omega) (by omega), Option.bind_some]
  by_cases h1 : (1048576 : Int) < a.1.length
  · rw [if_pos h1]; exact ⟨-1, rfl, .inl (by omega)⟩
  · rw [if_neg h1, dec_f (by omega), cond_false, sz_ok _ hb _ (by omega) (by omega), Option.bind_some]
    by_cases h2 : (1048576 : Int) - a.1.length < a.2.length
    · rw [if_pos h2]; exact ⟨-1, rfl, .inl (by omega)⟩
    · rw [if_neg h2, dec_f (by omega), cond_false]; exact ⟨_, rfl, .inr ⟨by omega, by omega, rfl⟩⟩
theorem toStrip_ok (a : List Int × List Int) (h1 : a.1.length ≤ 1048576) (h2 : a.2.length ≤ 1048576) : g_laws_toStrip a = some a := by
  rw [g_laws_toStrip, t_laws_toStrip, to_Int64S _ h1, Option.bind_some, to_Int64S _ h2]; rfl
theorem eqStrip_ok (a : List Int × List Int) (h1 : a.1.length ≤ 1048576) (h2 : a.2.length ≤ 1048576) : g_laws_eqStrip a a = some true := by
  rw [g_laws_eqStrip, t_laws_eqStrip, eq_Int64S _ _ (by omega), Option.bind_some, eq_Int64S _ _ (by omega)]
  simp
theorem markStrip_ok (a : List Int × List Int) (h1 : a.1.length ≤ 1048576) (h2 : a.2.length ≤ 1048576) : g_laws_markStrip a.1 a.2 1 = some (1 + (a.1.length : Int) + (a.2.length : Int), (marks 1 a.1.length, marks (1 + (a.1.length : Int)) a.2.length)) := by
  rw [g_laws_markStrip, t_laws_markStrip, dec_t rfl, dec_t rfl, cond_true, mark_Int64S _ h1 1 (by omega) (by omega), Option.bind_some, cond_true, mark_Int64S _ h2 _ (by show 0 ≤ 1 + (a.1.length : Int); omega) (by show 1 + (a.1.length : Int) ≤ 1000000000; omega)]
  rfl

/-! the law -/
theorem heldStrip_ok (n1 n2 : Nat) (h1 : n1 ≤ 1048576) (h2 : n2 ≤ 1048576) : g_laws_heldStrip (marks 1 n1, marks (1 + (n1 : Int)) n2) 1 = some (1 + (n1 : Int) + (n2 : Int)) := by
  rw [g_laws_heldStrip, t_laws_heldStrip, held_Int64S n1 1 h1 (by omega) (by omega), Option.bind_some, dec_f (by omega), cond_false, held_Int64S n2 _ h2 (by omega) (by omega), Option.bind_some, dec_f (by omega)]
  rfl

noncomputable def appS (a : Str) (x : Sp) : Str × Int := cond (okS a) (cond (canB a x) (stepA a x, 0) (([], []), 9)) (([], []), 1)
theorem appS_length (a : Str) (x : Sp) : (appS a x).1.1.length ≤ 100 ∧ (appS a x).1.2.length ≤ 100 := by
  unfold appS
  cases h : okS a
  · exact ⟨Nat.zero_le _, Nat.zero_le _⟩
  · cases hc : canB a x
    · exact ⟨Nat.zero_le _, Nat.zero_le _⟩
    · exact stepA_length h x
theorem spec_app (a : Str) (x : Sp) (h1 : a.1.length ≤ 1048576) (h2 : a.2.length ≤ 1048576) : g_spec_ApplyStrip a x = some (appS a x) := by
  rw [g_spec_ApplyStrip, t_spec_ApplyStrip, spec_ok a h1 h2, Option.bind_some]
  unfold appS
  cases h : okS a
  · rfl
  · rw [Bool.not_true, cond_false, can_ok h, Option.bind_some]
    cases hc : canB a x
    · rfl
    · rw [Bool.not_true, cond_false, specApply h hc]; rfl
theorem impl_app (a : Str) (x : Sp) (h1 : a.1.length ≤ 1048576) (h2 : a.2.length ≤ 1048576) : g_impl_ApplyStrip a x = some (appS a x) := by
  rw [g_impl_ApplyStrip, t_impl_ApplyStrip, impl_ok a h1 h2, Option.bind_some]
  unfold appS
  cases h : okS a
  · rfl
  · rw [Bool.not_true, cond_false, can_eq, can_ok h, Option.bind_some]
    cases hc : canB a x
    · rfl
    · rw [Bool.not_true, cond_false, implApply h hc]; rfl

theorem law_ApplyStrip (a : Str) (x : Sp) (ha : a.1.length ≤ 9223372036854775807) (hb : a.2.length ≤ 9223372036854775807) : g_laws_FnExactApplyStrip a x = some true := by
  obtain ⟨y, hy, hc⟩ := szStrip_ok a ha hb
  rw [g_laws_FnExactApplyStrip, t_laws_FnExactApplyStrip, hy, Option.bind_some]
  have hsx : g_laws_toStripStep x = some x := rfl
  rcases hc with h | ⟨h1, h2, h3⟩
  · rw [dec_t h]; rfl
  · by_cases hn : y < 0
    · rw [dec_t hn]; rfl
    · obtain ⟨k1, k2⟩ := appS_length a x
      have l1 : (appS a x).1.1.length ≤ 1048576 := by omega
      have l2 : (appS a x).1.2.length ≤ 1048576 := by omega
      rw [dec_f hn, cond_false]
      simp only [toStrip_ok a h1 h2, hsx, eqStrip_ok a h1 h2, markStrip_ok a h1 h2, spec_app a x h1 h2, impl_app a x h1 h2, Option.bind_some, eqStrip_ok _ l1 l2, markStrip_ok _ l1 l2, heldStrip_ok _ _ l1 l2,
        decide_true, Bool.not_true, cond_true, cond_false, bne_self_eq_false]
      rw [dec_f (show ¬ (1 + (a.1.length : Int) + a.2.length < 0) by omega), dec_f (show ¬ (1 + ((appS a x).1.1.length : Int) + ((appS a x).1.2.length : Int) < 0) by omega)]
      rfl

end Go.Proofs.Ytpabholjoblkbaa
