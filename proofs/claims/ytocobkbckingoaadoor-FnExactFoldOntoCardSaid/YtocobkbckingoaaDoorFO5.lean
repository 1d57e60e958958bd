/- The plain law on FoldOnto. No conditions. -/
import Derived.Test.YtocobkbckingoaaDoorFO4
namespace Go.Proofs.YtocobkbckingoaaDoor
open Go.Vai
def ontoN (p q : Pt) : Ln × Int := cond (okP p && okP q) (match dirN p q with | some d => resL (lnN (midN p q) ((d + 4) % 8)) | none => ((0, (0, (0, 0))), 7)) ((0, (0, (0, 0))), 1)

theorem spec_onto (p q : Pt) : g_spec_FoldOnto p q = some (ontoN p q) := by
  rw [g_spec_FoldOnto, t_spec_FoldOnto, spec_okP, spec_okP]
  unfold ontoN
  simp only [Option.bind_some]
  cases hp : okP p
  · rfl
  cases hq : okP q
  · rfl
  have bp := okP_bd hp
  have bq := okP_bd hq
  simp only [Bool.not_true, cond_false, Bool.and_self, cond_true, g_spec_l02Of, t_spec_l02Of, g_spec_l01Of, t_spec_l01Of, Option.bind_some]
  have hd := specDir_ok hp hq
  rw [Option.bind_eq_some_iff] at hd
  obtain ⟨v, h1, h2⟩ := hd
  rw [h1, Option.bind_some, h2, Option.bind_some]
  cases hdn : dirN p q with
  | none => rfl
  | some d =>
    have hdb := dirN_bd hdn
    try simp only
    rw [dec_f (show ¬ d < 0 by omega), cond_false]
    have a1 := (add_ok bp.1 bq.1 (by decide) (by decide) (by decide) (by decide) (by decide)).1
    have a2 := (add_ok bp.2 bq.2 (by decide) (by decide) (by decide) (by decide) (by decide)).1
    have b1 := addN_bd bp.1 bq.1
    have b2 := addN_bd bp.2 bq.2
    have c1 := b1.1
    have c2 := b2.1
    have hb1 := halfN_bd (by decide) b1
    have hb2 := halfN_bd (by decide) b2
    rw [a1, Option.bind_some, specHalf _ c1 (by have := b1.2.1; exact Int.le_trans this (by decide)), Option.bind_some, a2, Option.bind_some, specHalf _ c2 (by have := b2.2.1; exact Int.le_trans this (by decide)), Option.bind_some,
      wrap_id (n := d + 4) (by omega) (by omega), through_ok (p := (halfN (addN p.1 q.1), halfN (addN p.2 q.2))) (by omega) (by omega) (by decide) (by decide) ⟨hb1, hb2⟩ (by decide), Option.bind_some]
    have hl : lnN (halfN (addN p.1 q.1), halfN (addN p.2 q.2)) ((d + 4) % 8) = lnN (midN p q) ((d + 4) % 8) := by
      unfold lnN midN
      rw [dot_half _ c1 c2]
    rw [hl]
    have hbd := dotN_bd (V := 1) (by decide) (vec_bd (d := (d + 4) % 8 + 4) (by omega) (by omega)) (p := midN p q) ⟨half_low_bd (by decide) b1, half_low_bd (by decide) b2⟩
    have hi := bd_i64 hbd (by decide) (by decide)
    rw [spec_one (l := lnN (midN p q) ((d + 4) % 8)) (addN_can _ _) (by have := hbd.2.1; exact Int.le_trans this (by decide)) hi.1 hi.2]
    rfl

theorem impl_onto (p q : Pt) : g_impl_FoldOnto p q = some (ontoN p q) := by
  rw [g_impl_FoldOnto, t_impl_FoldOnto, impl_okP, impl_okP]
  unfold ontoN
  simp only [Option.bind_some]
  cases hp : okP p
  · rfl
  cases hq : okP q
  · rfl
  have bp := okP_bd hp
  have bq := okP_bd hq
  simp only [Bool.not_true, cond_false, Bool.and_self, cond_true]
  rw [implDir_ok hp hq, Option.bind_some]
  cases hdn : dirN p q with
  | none => rfl
  | some d =>
    have hdb := dirN_bd hdn
    try simp only
    have b1 := addN_bd bp.1 bq.1
    have b2 := addN_bd bp.2 bq.2
    rw [dec_f (show ¬ d < 0 by omega), cond_false, g_impl_middle, t_impl_middle, plus_ok bp bq (by decide) (by decide) (by decide) (by decide) (by decide), Option.bind_some]
    unfold plusN
    try simp only
    rw [implHalf b1 (by decide) (by decide) (by decide), Option.bind_some, implHalf b2 (by decide) (by decide) (by decide), Option.bind_some, Option.bind_some,
      wrap_id (n := d + 4) (by omega) (by omega), Int.tmod_eq_emod_of_nonneg (by omega)]
    have hl := lineAt_ok (d := (d + 4) % 8) (p := midN p q) (by omega) (by omega) (by decide) (by decide) ⟨half_low_bd (by decide) b1, half_low_bd (by decide) b2⟩ (by decide)
    unfold midN at hl ⊢
    rw [hl, Option.bind_some, impl_res (l := lnN _ ((d + 4) % 8)) (by show 0 ≤ (d + 4) % 8; omega) (by show (d + 4) % 8 ≤ 7; omega)]
    rfl

theorem law_FoldOnto (p q : Pt) : g_laws_FnExactFoldOnto p q = some true := by
  rw [g_laws_FnExactFoldOnto, t_laws_FnExactFoldOnto]
  simp only [toPoint_id, Option.bind_some, spec_onto, impl_onto, eqLine_self]
  simp

end Go.Proofs.YtocobkbckingoaaDoor
