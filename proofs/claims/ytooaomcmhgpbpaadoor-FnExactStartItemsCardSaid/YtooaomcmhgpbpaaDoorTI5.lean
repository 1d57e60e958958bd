/- The square's sides. No conditions. -/
import Derived.Test.YtooaomcmhgpbpaaDoorTI4
namespace Go.Proofs.YtooaomcmhgpbpaaDoor
open Go.Vai
def wh (a : Int) : Nm := (a, (0, 0))
def sideOk (p q : Pt) (d : Int) : Bool := okP p && (okP q && (decide (dirN p q = some d) && okN (dotN (vecN (d % 8 + 4)) p)))
def chk (s : Int) : Bool :=
  sideOk (wh 0, wh 0) (wh s, wh 0) 0 && (sideOk (wh s, wh 0) (wh s, wh s) 4 && (sideOk (wh s, wh s) (wh 0, wh s) 8 && sideOk (wh 0, wh s) (wh 0, wh 0) 12))
set_option maxRecDepth 100000
theorem chk_all : (List.range 1000).all (fun n => chk ((n : Int) + 1)) = true := by decide +kernel

theorem chk_ok {s : Int} (h0 : 1 ≤ s) (h1 : s ≤ 1000) : chk s = true := by
  have h := List.all_eq_true.1 chk_all (s.toNat - 1) (List.mem_range.2 (by omega))
  rwa [show ((s.toNat - 1 : Nat) : Int) + 1 = s by omega] at h

/-- The line through two points, where all is well. -/
theorem spec_side {p q : Pt} {d : Int} (h : sideOk p q d = true) : g_spec_LineThrough p q = some (lnN p (d % 8), 0) := by
  simp only [sideOk, Bool.and_eq_true, decide_eq_true_eq] at h
  obtain ⟨hp, hq, hdn, hok⟩ := h
  rw [g_spec_LineThrough, t_spec_LineThrough, spec_okP, spec_okP]
  simp only [Option.bind_some, hp, hq]
  have hb := okP_bd hp
  simp only [Bool.not_true, cond_false, g_spec_l02Of, t_spec_l02Of, g_spec_l01Of, t_spec_l01Of, Option.bind_some]
  have hd := specDir_ok hp hq
  rw [Option.bind_eq_some_iff] at hd
  obtain ⟨v, h1, h2⟩ := hd
  rw [h1, Option.bind_some, h2, Option.bind_some]
  rw [hdn]
  have hdb := dirN_bd hdn
  simp only
  rw [dec_f (show ¬ d < 0 by omega), cond_false, Int.tmod_eq_emod_of_nonneg (by omega), g_spec_LineAt, t_spec_LineAt, spec_okP, hp]
  simp only [Option.bind_some, Bool.not_true, cond_false, in_spec]
  rw [dec_t (show 0 ≤ d % 8 by omega), dec_t (show d % 8 ≤ 7 by omega)]
  simp only [Bool.and_self, Bool.not_true, cond_false, g_spec_l02Of, t_spec_l02Of, g_spec_l01Of, t_spec_l01Of, Option.bind_some]
  rw [wrap_id (n := d % 8 + 4) (by omega) (by omega)]
  have hdot := (dot_ok (d := d % 8 + 4) (by omega) (by omega) (by decide) (by decide) hb (by decide)).1
  have hbd := dotN_bd (V := 1) (by decide) (vec_bd (d := d % 8 + 4) (by omega) (by omega)) hb
  have hi := bd_i64 hbd (by decide) (by decide)
  rw [hdot, Option.bind_some, num_ok (x := dotN (vecN (d % 8 + 4)) p) (addN_can _ _) (by have := hbd.2.1; exact Int.le_trans this (by decide)) hi.1 hi.2]
  rw [hok]; rfl

theorem impl_side {p q : Pt} {d : Int} (h : sideOk p q d = true) : g_impl_sideLine p q = some (lnN p (d % 8), decide (d < 8)) := by
  simp only [sideOk, Bool.and_eq_true, decide_eq_true_eq] at h
  obtain ⟨hp, hq, hdn, hok⟩ := h
  have hdb := dirN_bd hdn
  rw [g_impl_sideLine, t_impl_sideLine, implDir_ok hp hq, Option.bind_some, hdn]
  simp only
  rw [Int.tmod_eq_emod_of_nonneg (by omega), lineAt_ok (d := d % 8) (by omega) (by omega) (by decide) (by decide) (okP_bd hp) (by decide)]
  rfl

end Go.Proofs.YtooaomcmhgpbpaaDoor
