/- The law's text. No conditions. -/
import Derived.Test.YtpabholjoblkbaaSF4
namespace Go.Proofs.Ytpabholjoblkbaa
open Go.Vai
/-! the strip as a law's input -/
theorem szStrip_ok (a : List Int × List Int) (ha : a.1.length ≤ 9223372036854775807) (hb : a.2.length ≤ 9223372036854775807) : ∃ y, g_laws_szStrip a 1048576 = some y ∧ (y < 0 ∨ (a.1.length ≤ 1048576 ∧ a.2.length ≤ 1048576 ∧ y = 1048576 - a.1.length - a.2.length)) := by
  rw [g_laws_szStrip, t_laws_szStrip, sz_ok _ ha _ (by omega) (by omega), Option.bind_some]
  by_cases h1 : (1048576 : Int) < a.1.length
  · rw [if_pos h1]; exact ⟨-1, rfl, .inl (by omega)⟩
  · rw [if_neg h1, dec_f (by omega), cond_false, sz_ok _ hb _ (by omega) (by omega), Option.bind_some]
    by_cases h2 : (1048576 : Int) - a.1.length < a.2.length
    · rw [if_pos h2]; exact ⟨-1, rfl, .inl (by omega)⟩
    · rw [if_neg h2, dec_f (by omega), cond_false]; exact ⟨_, rfl, .inr ⟨by omega, by omega, rfl⟩⟩
theorem toStrip_ok (a : List Int × List Int) (h1 : a.1.length ≤ 1048576) (h2 : a.2.length ≤ 1048576) : g_laws_toStrip a = some a := by
  rw [g_laws_toStrip, t_laws_toStrip, to_Int64S _ h1, Option.bind_some, to_Int64S _ h2]; rfl
theorem eqStrip_ok (a : List Int × List Int) (h1 : a.1.length ≤ 1048576) (h2 : a.2.length ≤ 1048576) : g_laws_eqStrip a a = some true := by
  rw [g_laws_eqStrip, t_laws_eqStrip, eq_Int64S _ _ (by omega), Option.bind_some, eq_Int64S _ _ (by omega)]
  simp
theorem spec_flat (a : Str) (h1 : a.1.length ≤ 1048576) (h2 : a.2.length ≤ 1048576) : g_spec_StripFlat a = some (okS a && flatB a) := by
  rw [g_spec_StripFlat, t_spec_StripFlat, spec_ok a h1 h2, Option.bind_some]
  cases h : okS a
  · rfl
  · rw [cond_true, specFlat (okS_len h)]; rfl
theorem impl_flat (a : Str) (h1 : a.1.length ≤ 1048576) (h2 : a.2.length ≤ 1048576) : g_impl_StripFlat a = some (okS a && flatB a) := by
  rw [g_impl_StripFlat, t_impl_StripFlat, impl_ok a h1 h2, Option.bind_some]
  cases h : okS a
  · rfl
  · rw [cond_true, implFlat (okS_len h)]; rfl
theorem law_StripFlat (a : Str) (ha : a.1.length ≤ 9223372036854775807) (hb : a.2.length ≤ 9223372036854775807) : g_laws_FnExactStripFlat a = some true := by
  obtain ⟨y, hy, hc⟩ := szStrip_ok a ha hb
  rw [g_laws_FnExactStripFlat, t_laws_FnExactStripFlat, hy, Option.bind_some]
  rcases hc with h | ⟨h1, h2, h3⟩
  · rw [dec_t h]; rfl
  · by_cases hn : y < 0
    · rw [dec_t hn]; rfl
    · rw [dec_f hn, cond_false]
      simp only [toStrip_ok a h1 h2, eqStrip_ok a h1 h2, spec_flat a h1 h2, impl_flat a h1 h2, Option.bind_some, beq_self_eq_true, Bool.not_true, cond_false]

end Go.Proofs.Ytpabholjoblkbaa
