/- The plain law on FoldAcross. No conditions. -/
import Derived.Test.YtocobkbckingoaaDoorFA4
namespace Go.Proofs.YtocobkbckingoaaDoor
open Go.Vai
theorem okL_bd {l : Ln} (h : okL l = true) : 0 ≤ l.1 ∧ l.1 ≤ 7 ∧ Bd 131072 10 l.2 ∧ l.2.can := by
  simp only [okL, Bool.and_eq_true, decide_eq_true_eq] at h
  exact ⟨h.1.1, h.1.2, okN_bd h.2, okN_can h.2⟩

def acrossN (p : Pt) (l m : Ln) : Ln × Int :=
  cond (okP p && (okL l && okL m)) (cond (decide (l.1 = m.1)) ((0, (0, (0, 0))), 7) (resL (alN ((m.1 + 4) % 8) p l))) ((0, (0, (0, 0))), 1)

theorem across_all : ((List.range 8).all fun a => (List.range 8).all fun m => decide (a = m) || !isZ (byN (((m : Int) + 4) % 8) (a : Int))) = true := by decide +kernel

theorem across_by {l m : Int} (h0 : 0 ≤ l) (h1 : l ≤ 7) (h2 : 0 ≤ m) (h3 : m ≤ 7) (hne : l ≠ m) : isZ (byN ((m + 4) % 8) l) = false := by
  have h := List.all_eq_true.1 (List.all_eq_true.1 across_all l.toNat (by simp; omega)) m.toNat (by simp; omega)
  rw [Int.toNat_of_nonneg h0, Int.toNat_of_nonneg h2] at h
  simp only [Bool.or_eq_true, decide_eq_true_eq, Bool.not_eq_true'] at h
  exact h.resolve_left (fun e => hne (by omega))

theorem spec_across (p : Pt) (l m : Ln) : g_spec_FoldAcross p l m = some (acrossN p l m) := by
  rw [g_spec_FoldAcross, t_spec_FoldAcross, spec_okP, spec_okL, spec_okL]
  unfold acrossN
  simp only [Option.bind_some]
  cases hp : okP p
  · rfl
  cases hl : okL l
  · rfl
  cases hm : okL m
  · rfl
  have bp := okP_bd hp
  obtain ⟨l0, l1, lb, lc⟩ := okL_bd hl
  obtain ⟨m0, m1, mb, mc⟩ := okL_bd hm
  simp only [Bool.not_true, cond_false, Bool.and_self, cond_true, g_spec_l02Of, t_spec_l02Of, g_spec_l02LineOf, t_spec_l02LineOf, g_spec_l01Of, t_spec_l01Of, Option.bind_some]
  rw [show (l.1 == m.1) = decide (l.1 = m.1) from rfl]
  by_cases hd : l.1 = m.1
  · rw [dec_t hd]; rfl
  · rw [dec_f hd, cond_false, cond_false, wrap_id (n := m.1 + 4) (by omega) (by omega), Int.tmod_eq_emod_of_nonneg (by omega)]
    have hz := across_by l0 l1 m0 m1 hd
    have mv := (move_ok (d := (m.1 + 4) % 8) (by omega) (by omega) l0 l1 lb bp).1
    unfold moveN at mv
    rw [hz, cond_false] at mv
    have mv : g_spec_l23Move ((m.1 + 4) % 8) (p.1, p.2) (l.1, l.2) = _ := mv
    rw [mv, Option.bind_some]
    have hb := alN_bd (d := (m.1 + 4) % 8) (by omega) (by omega) l0 l1 lb bp hz
    have hi := bd_i64 hb (by decide) (by decide)
    have so := spec_one (l := alN ((m.1 + 4) % 8) p l) (addN_can _ _) (by have := hb.2.1; omega) hi.1 hi.2
    simp only
    rw [so]
    rfl

theorem impl_across (p : Pt) (l m : Ln) : g_impl_FoldAcross p l m = some (acrossN p l m) := by
  rw [g_impl_FoldAcross, t_impl_FoldAcross, impl_okP, impl_okL, impl_okL]
  unfold acrossN
  simp only [Option.bind_some]
  cases hp : okP p
  · rfl
  cases hl : okL l
  · rfl
  cases hm : okL m
  · rfl
  have bp := okP_bd hp
  obtain ⟨l0, l1, lb, lc⟩ := okL_bd hl
  obtain ⟨m0, m1, mb, mc⟩ := okL_bd hm
  simp only [Bool.not_true, cond_false, Bool.and_self, cond_true]
  rw [show (l.1 == m.1) = decide (l.1 = m.1) from rfl]
  by_cases hd : l.1 = m.1
  · rw [dec_t hd]; rfl
  · rw [dec_f hd, cond_false, cond_false, wrap_id (n := m.1 + 4) (by omega) (by omega), Int.tmod_eq_emod_of_nonneg (by omega)]
    have hz := across_by l0 l1 m0 m1 hd
    have mv := (move_ok (d := (m.1 + 4) % 8) (by omega) (by omega) l0 l1 lb bp).2
    unfold moveN at mv
    rw [hz, cond_false] at mv
    rw [mv, Option.bind_some]
    have ir := impl_res (l := alN ((m.1 + 4) % 8) p l) (by show 0 ≤ (m.1 + 4) % 8; omega) (by show (m.1 + 4) % 8 ≤ 7; omega)
    simp only
    rw [show ((1 : Int) == 1) = true from rfl, ir]
    rfl

theorem law_FoldAcross (p : Pt) (l m : Ln) : g_laws_FnExactFoldAcross p l m = some true := by
  rw [g_laws_FnExactFoldAcross, t_laws_FnExactFoldAcross]
  simp only [toPoint_id, toLine_id, Option.bind_some, spec_across, impl_across, eqLine_self]
  simp

end Go.Proofs.YtocobkbckingoaaDoor
