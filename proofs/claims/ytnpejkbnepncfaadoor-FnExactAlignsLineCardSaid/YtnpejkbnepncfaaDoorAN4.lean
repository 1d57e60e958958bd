/- The plain law on AlignsLine. No conditions. -/
import Derived.Test.YtnpejkbnepncfaaDoorAN3
namespace Go.Proofs.YtnpejkbnepncfaaDoor
open Go.Vai
/-! the law on AlignsLine -/
def alignsL (f l m : Ln) : Bool := okL f && (okL l && (okL m && decide (lnN (reflN f (footN l)) ((2 * f.1 - l.1) % 8) = m)))

theorem okL_bd {l : Ln} (h : okL l = true) : 0 ≤ l.1 ∧ l.1 ≤ 7 ∧ Bd 131072 10 l.2 ∧ l.2.can := by
  simp only [okL, Bool.and_eq_true, decide_eq_true_eq] at h
  exact ⟨h.1.1, h.1.2, okN_bd h.2, okN_can h.2⟩

theorem lnN_snd (p : Pt) (d : Int) : (lnN p d).2 = dotN (vecN (d + 4)) p := rfl

theorem spec_alignsL (f l m : Ln) : g_spec_AlignsLine f l m = some (alignsL f l m) := by
  rw [g_spec_AlignsLine, t_spec_AlignsLine, spec_okL, spec_okL, spec_okL]
  unfold alignsL
  simp only [Option.bind_some]
  cases hf : okL f
  · rfl
  cases hl : okL l
  · rfl
  cases hm : okL m
  · rfl
  obtain ⟨f0, f1, fb, fc⟩ := okL_bd hf
  obtain ⟨l0, l1, lb, lc⟩ := okL_bd hl
  obtain ⟨m0, m1, mb, mc⟩ := okL_bd hm
  simp only [Bool.not_true, cond_false, Bool.true_and, g_spec_l02LineOf, t_spec_l02LineOf, g_spec_l01Of, t_spec_l01Of, Option.bind_some]
  have hfb := footN_bd l0 l1 lb
  have hrb := reflN_bd f0 f1 fb (by decide) (by decide) hfb
  rw [(foot_ok l0 l1 lb).1, Option.bind_some, (reflect_ok f0 f1 fb (by decide) (by decide) (by decide) hfb (by decide)).1, Option.bind_some, wrap_id (n := 2 * f.1) (by omega) (by omega), wrap_id (n := 2 * f.1 - l.1) (by omega) (by omega),
    through_ok (by omega) (by omega) (by decide) (by decide) hrb (by decide), Option.bind_some]
  have hdb := dotN_bd (V := 1) (by decide) (vec_bd (d := (2 * f.1 - l.1) % 8 + 4) (by omega) (by omega)) hrb
  have hs := (sub_ok hdb mb (by decide) (by decide) (by decide) (by decide) (by decide)).1
  have e2 := lnN_snd (reflN f (footN l)) ((2 * f.1 - l.1) % 8)
  rw [e2, hs, Option.bind_some, zero_ok, ← e2]
  have hXc : (lnN (reflN f (footN l)) ((2 * f.1 - l.1) % 8)).2.can := by rw [e2]; exact addN_can _ _
  clear e2
  clear hs hdb
  generalize lnN (reflN f (footN l)) ((2 * f.1 - l.1) % 8) = X at *
  have hz := sub_zero_iff (x := X.2) (y := m.2) hXc mc
  rw [show (X.1 == m.1) = decide (X.1 = m.1) from rfl]
  by_cases hdm : X.1 = m.1
  · rw [dec_t hdm, cond_true, Option.bind_some]
    congr 1
    by_cases he : X.2 = m.2
    · rw [dec_t (hz.2 he), dec_t (Prod.ext hdm he)]
    · rw [dec_f (fun e => he (hz.1 e)), dec_f (fun e => he (by rw [e]))]
  · rw [dec_f hdm, cond_false, dec_f (fun e => hdm (by rw [e]))]

theorem impl_alignsL (f l m : Ln) : g_impl_AlignsLine f l m = some (alignsL f l m) := by
  rw [g_impl_AlignsLine, t_impl_AlignsLine, impl_okL, impl_okL, impl_okL]
  unfold alignsL
  simp only [Option.bind_some]
  cases hf : okL f
  · rfl
  cases hl : okL l
  · rfl
  cases hm : okL m
  · rfl
  obtain ⟨f0, f1, fb, fc⟩ := okL_bd hf
  obtain ⟨l0, l1, lb, lc⟩ := okL_bd hl
  simp only [Bool.not_true, cond_false, Bool.true_and]
  have hfb := footN_bd l0 l1 lb
  have hrb := reflN_bd f0 f1 fb (by decide) (by decide) hfb
  rw [(foot_ok l0 l1 lb).2, Option.bind_some, (reflect_ok f0 f1 fb (by decide) (by decide) (by decide) hfb (by decide)).2, Option.bind_some, and7, wrap_id (n := 2 * f.1) (by omega) (by omega), wrap_id (n := 2 * f.1 - l.1) (by omega) (by omega),
    lineAt_ok (by omega) (by omega) (by decide) (by decide) hrb (by decide), Option.bind_some]
  congr 1
  generalize lnN (reflN f (footN l)) ((2 * f.1 - l.1) % 8) = x
  obtain ⟨a, b, c, d⟩ := x
  obtain ⟨a', b', c', d'⟩ := m
  simp only [Bool.and_true]
  rw [Bool.eq_iff_iff]
  simp

theorem law_AlignsLine (f l m : Ln) : g_laws_FnExactAlignsLine f l m = some true := by
  rw [g_laws_FnExactAlignsLine, t_laws_FnExactAlignsLine]
  simp only [toLine_id, Option.bind_some, spec_alignsL, impl_alignsL]
  simp

end Go.Proofs.YtnpejkbnepncfaaDoor
