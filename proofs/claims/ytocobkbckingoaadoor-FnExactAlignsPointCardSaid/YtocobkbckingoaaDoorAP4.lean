/- The plain law on AlignsPoint. No conditions. -/
import Derived.Test.YtocobkbckingoaaDoorAP3
namespace Go.Proofs.YtocobkbckingoaaDoor
open Go.Vai
/-! the law on AlignsPoint -/
theorem okL_bd {l : Ln} (h : okL l = true) : 0 ≤ l.1 ∧ l.1 ≤ 7 ∧ Bd 131072 10 l.2 ∧ l.2.can := by
  simp only [okL, Bool.and_eq_true, decide_eq_true_eq] at h
  exact ⟨h.1.1, h.1.2, okN_bd h.2, okN_can h.2⟩

/-- How far a point is from a line. -/
def offN (l : Ln) (p : Pt) : Nm := subN (dotN (vecN (l.1 + 4)) p) l.2

def alignsP (f : Ln) (p : Pt) (l : Ln) : Bool := okL f && (okP p && (okL l && decide ((offN l (reflN f p)).1 = 0 ∧ (offN l (reflN f p)).2.1 = 0)))

theorem side_ok {V : Int} {κ : Nat} {l : Ln} {p : Pt} (h0 : 0 ≤ l.1) (h1 : l.1 ≤ 7) (hl : Bd 131072 10 l.2) (hV : 0 ≤ V) (hκ : 10 ≤ κ) (hκ' : κ ≤ 50) (hp : Bd V κ p.1 ∧ Bd V κ p.2) (h : (131072 + 6 * V) * 2 ^ κ ≤ 4611686018427387904) :
    g_spec_l02Side l p = g_spec_l01Sign (offN l p) ∧ g_impl_Line_side l p = g_impl_Num_sign (offN l p) := by
  have hd0 : 0 ≤ l.1 + 4 := by omega
  have hd1 : l.1 + 4 < 16 := by omega
  have hpp : (0 : Int) < 2 ^ κ := Int.pow_pos (by decide)
  have e1 : (131072 + 6 * V) * 2 ^ κ = 131072 * 2 ^ κ + 6 * V * 2 ^ κ := Int.add_mul ..
  have okdot := dot_ok (d := l.1 + 4) hd0 hd1 hV (by omega) hp (by omega)
  have hdot := dotN_bd (V := 1) (by decide) (vec_bd hd0 hd1) hp
  have hdot : Bd (6 * V) κ (dotN (vecN (l.1 + 4)) p) := hdot.mono (by omega) (by omega)
  have hmax : max κ 10 = κ := by omega
  have s := sub_ok hdot hl (by omega) (by decide) (by omega) (by decide) (by rw [hmax, Int.add_comm]; exact h)
  have hw : IntKind.wrap .i64 (l.1 + 4) = l.1 + 4 := wrap_id (by omega) (by omega)
  constructor
  · rw [g_spec_l02Side, t_spec_l02Side, hw, okdot.1, Option.bind_some, s.1, Option.bind_some]
    show (g_spec_l01Sign (offN l p)).bind (fun y => some y) = _
    cases g_spec_l01Sign (offN l p) <;> rfl
  · rw [g_impl_Line_side, t_impl_Line_side, g_impl_Line_normal, t_impl_Line_normal]
    try simp only
    rw [hw, (vec_ok hd0 hd1).2]
    simp only [Option.bind_some]
    rw [okdot.2, Option.bind_some, s.2, Option.bind_some]
    show (g_impl_Num_sign (offN l p)).bind (fun y => some y) = _
    cases g_impl_Num_sign (offN l p) <;> rfl

theorem spec_alignsP (f : Ln) (p : Pt) (l : Ln) : g_spec_AlignsPoint f p l = some (alignsP f p l) := by
  rw [g_spec_AlignsPoint, t_spec_AlignsPoint, spec_okL, spec_okL, spec_okP]
  unfold alignsP
  simp only [Option.bind_some]
  cases hf : okL f
  · rfl
  cases hp : okP p
  · rfl
  cases hl : okL l
  · rfl
  obtain ⟨f0, f1, fb, fc⟩ := okL_bd hf
  obtain ⟨l0, l1, lb, lc⟩ := okL_bd hl
  have hpb := okP_bd hp
  simp only [cond_true, Bool.true_and, g_spec_l02LineOf, t_spec_l02LineOf, g_spec_l02Of, t_spec_l02Of, g_spec_l01Of, t_spec_l01Of, Option.bind_some]
  have hr := (reflect_ok f0 f1 fb (by decide) (by decide) (by decide) hpb (by decide)).1
  have hrb := reflN_bd f0 f1 fb (by decide) (by decide) hpb
  have hs := (side_ok l0 l1 lb (by decide) (by decide) (by decide) hrb (by decide)).1
  rw [g_spec_l23Aligned, t_spec_l23Aligned]
  rw [hr, Option.bind_some, hs]
  obtain ⟨s, h1, h2⟩ := specSign_zero (offN l (reflN f p))
  rw [h1, Option.bind_some, Option.bind_some]
  congr 1
  rw [show (s == 0) = decide (s = 0) from rfl]
  generalize offN l (reflN f p) = X at *
  by_cases h : s = 0
  · rw [dec_t h, dec_t (h2.1 h)]
  · rw [dec_f h, dec_f (fun e => h (h2.2 e))]

theorem impl_alignsP (f : Ln) (p : Pt) (l : Ln) : g_impl_AlignsPoint f p l = some (alignsP f p l) := by
  rw [g_impl_AlignsPoint, t_impl_AlignsPoint, impl_okL, impl_okL, impl_okP]
  unfold alignsP
  simp only [Option.bind_some]
  cases hf : okL f
  · rfl
  cases hp : okP p
  · rfl
  cases hl : okL l
  · rfl
  obtain ⟨f0, f1, fb, fc⟩ := okL_bd hf
  obtain ⟨l0, l1, lb, lc⟩ := okL_bd hl
  have hpb := okP_bd hp
  simp only [cond_true, Bool.true_and]
  have hrb := reflN_bd f0 f1 fb (by decide) (by decide) hpb
  rw [(reflect_ok f0 f1 fb (by decide) (by decide) (by decide) hpb (by decide)).2, Option.bind_some, (side_ok l0 l1 lb (by decide) (by decide) (by decide) hrb (by decide)).2]
  obtain ⟨s, h1, h2⟩ := implSign_zero (offN l (reflN f p))
  rw [h1, Option.bind_some]
  congr 1
  rw [show (s == 0) = decide (s = 0) from rfl]
  generalize offN l (reflN f p) = X at *
  by_cases h : s = 0
  · rw [dec_t h, dec_t (h2.1 h)]
  · rw [dec_f h, dec_f (fun e => h (h2.2 e))]

theorem law_AlignsPoint (f : Ln) (p : Pt) (l : Ln) : g_laws_FnExactAlignsPoint f p l = some true := by
  rw [g_laws_FnExactAlignsPoint, t_laws_FnExactAlignsPoint]
  simp only [toLine_id, toPoint_id, Option.bind_some, spec_alignsP, impl_alignsP]
  simp

end Go.Proofs.YtocobkbckingoaaDoor
