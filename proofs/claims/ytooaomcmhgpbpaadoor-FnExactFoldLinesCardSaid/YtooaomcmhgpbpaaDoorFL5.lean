/- The plain law on FoldLines. No conditions. -/
import Derived.Test.YtooaomcmhgpbpaaDoorFL4
namespace Go.Proofs.YtooaomcmhgpbpaaDoor
open Go.Vai
/-! where two lines meet -/
def detN (v w : Pt) : Nm := subN (mulN v.1 w.2) (mulN v.2 w.1)
def detD (a b : Int) : Nm := detN (vecN (a + 4)) (vecN (b + 4))

def detGood (y : Nm) : Bool :=
  decide (y.1 * y.1 - 2 * y.2.1 * y.2.1 ≠ 0) && (decide ((oddP 64 (y.1 * y.1 - 2 * y.2.1 * y.2.1)).1 = 1) || decide ((oddP 64 (y.1 * y.1 - 2 * y.2.1 * y.2.1)).1 = -1)) && decide ((oddP 64 (y.1 * y.1 - 2 * y.2.1 * y.2.1)).2 ≤ 8)

theorem det_all : ((List.range 8).all fun a => (List.range 8).all fun b => decide (a = b) || (decide ((a + b) % 2 = 1) || detGood (detD (a : Int) (b : Int)))) = true := by decide +kernel

theorem det_good {a b : Int} (h0 : 0 ≤ a) (h1 : a ≤ 7) (h2 : 0 ≤ b) (h3 : b ≤ 7) (hne : a ≠ b) (hp : (a + b) % 2 = 0) : detGood (detD a b) = true := by
  have h := List.all_eq_true.1 (List.all_eq_true.1 det_all a.toNat (by simp; omega)) b.toNat (by simp; omega)
  rw [Int.toNat_of_nonneg h0, Int.toNat_of_nonneg h2] at h
  simp only [Bool.or_eq_true, decide_eq_true_eq] at h
  rcases h with h | h | h
  · omega
  · omega
  · exact h

theorem det_bd {a b : Int} (h0 : 0 ≤ a) (h1 : a ≤ 7) (h2 : 0 ≤ b) (h3 : b ≤ 7) : Bd 6 0 (detD a b) := by
  obtain ⟨v1, v2⟩ := vec_bd (d := a + 4) (by omega) (by omega)
  obtain ⟨w1, w2⟩ := vec_bd (d := b + 4) (by omega) (by omega)
  exact subN_bd (mulN_bd (by decide) v1 w2) (mulN_bd (by decide) v2 w1)

def meetX (l m : Ln) : Nm := subN (mulN l.2 (vecN (m.1 + 4)).2) (mulN m.2 (vecN (l.1 + 4)).2)
def meetY (l m : Ln) : Nm := subN (mulN m.2 (vecN (l.1 + 4)).1) (mulN l.2 (vecN (m.1 + 4)).1)
def meetN (l m : Ln) : Pt := ((divN (meetX l m) (detD l.1 m.1)).1, (divN (meetY l m) (detD l.1 m.1)).1)

theorem okL_bd {l : Ln} (h : okL l = true) : 0 ≤ l.1 ∧ l.1 ≤ 7 ∧ Bd 131072 10 l.2 ∧ l.2.can := by
  simp only [okL, Bool.and_eq_true, decide_eq_true_eq] at h
  exact ⟨h.1.1, h.1.2, okN_bd h.2, okN_can h.2⟩

theorem meetX_bd {l m : Ln} (hl : okL l = true) (hm : okL m = true) : Bd 786432 10 (meetX l m) ∧ Bd 786432 10 (meetY l m) := by
  obtain ⟨l0, l1, lb, _⟩ := okL_bd hl
  obtain ⟨m0, m1, mb, _⟩ := okL_bd hm
  obtain ⟨v1, v2⟩ := vec_bd (d := l.1 + 4) (by omega) (by omega)
  obtain ⟨w1, w2⟩ := vec_bd (d := m.1 + 4) (by omega) (by omega)
  exact ⟨subN_bd (mulN_bd (by decide) lb w2) (mulN_bd (by decide) mb v2), subN_bd (mulN_bd (by decide) mb v1) (mulN_bd (by decide) lb w1)⟩

theorem quot_of {x y : Nm} (hx : Bd 786432 10 x) (hy : Bd 6 0 y) (hg : detGood y = true) : divN x y = ((divN x y).1, true) ∧ Bd 14155776 18 (divN x y).1 := by
  simp only [detGood, Bool.and_eq_true, Bool.or_eq_true, decide_eq_true_eq] at hg
  obtain ⟨⟨g1, g2⟩, g3⟩ := hg
  obtain ⟨t, t1, t2, t3, _, _⟩ := divN_unit (by decide) hx hy (m := (oddP 64 (y.1 * y.1 - 2 * y.2.1 * y.2.1)).1) (t := (oddP 64 (y.1 * y.1 - 2 * y.2.1 * y.2.1)).2) rfl g2 g1
  rw [t1]
  exact ⟨rfl, t3.mono (by decide) (by omega)⟩

theorem meetN_bd {l m : Ln} (hl : okL l = true) (hm : okL m = true) (hne : l.1 ≠ m.1) (hp : (l.1 + m.1) % 2 = 0) : Bd 14155776 18 (meetN l m).1 ∧ Bd 14155776 18 (meetN l m).2 := by
  obtain ⟨l0, l1, _, _⟩ := okL_bd hl
  obtain ⟨m0, m1, _, _⟩ := okL_bd hm
  have hg := det_good l0 l1 m0 m1 hne hp
  have hd := det_bd l0 l1 m0 m1
  have hb := meetX_bd hl hm
  exact ⟨(quot_of hb.1 hd hg).2, (quot_of hb.2 hd hg).2⟩

theorem specMeet {l m : Ln} (hl : okL l = true) (hm : okL m = true) (_hne : l.1 ≠ m.1) (_hp : (l.1 + m.1) % 2 = 0) : g_spec_l02Meet l m = some (meetN l m) := by
  obtain ⟨l0, l1, lb, _⟩ := okL_bd hl
  obtain ⟨m0, m1, mb, _⟩ := okL_bd hm
  obtain ⟨v1, v2⟩ := vec_bd (d := l.1 + 4) (by omega) (by omega)
  obtain ⟨w1, w2⟩ := vec_bd (d := m.1 + 4) (by omega) (by omega)
  have hd := det_bd l0 l1 m0 m1
  have hb := meetX_bd hl hm
  have a1 := (mul_ok v1 w2 (by decide) (by decide) (by decide) (by decide)).1
  have a2 := (mul_ok v2 w1 (by decide) (by decide) (by decide) (by decide)).1
  have a3 := (sub_ok (mulN_bd (by decide) v1 w2) (mulN_bd (by decide) v2 w1) (by decide) (by decide) (by decide) (by decide) (by decide)).1
  have b1 := (mul_ok lb w2 (by decide) (by decide) (by decide) (by decide)).1
  have b2 := (mul_ok mb v2 (by decide) (by decide) (by decide) (by decide)).1
  have b3 := (sub_ok (mulN_bd (by decide) lb w2) (mulN_bd (by decide) mb v2) (by decide) (by decide) (by decide) (by decide) (by decide)).1
  have c1 := (mul_ok mb v1 (by decide) (by decide) (by decide) (by decide)).1
  have c2 := (mul_ok lb w1 (by decide) (by decide) (by decide) (by decide)).1
  have c3 := (sub_ok (mulN_bd (by decide) mb v1) (mulN_bd (by decide) lb w1) (by decide) (by decide) (by decide) (by decide) (by decide)).1
  have d1 := (div_ok hb.1 hd (by decide) (by decide) (by decide) (by decide) (by decide) (by decide)).1
  have d2 := (div_ok hb.2 hd (by decide) (by decide) (by decide) (by decide) (by decide) (by decide)).1
  unfold meetX detD detN at d1
  unfold meetY detD detN at d2
  rw [g_spec_l02Meet, t_spec_l02Meet, wrap_id (n := l.1 + 4) (by omega) (by omega), wrap_id (n := m.1 + 4) (by omega) (by omega), (vec_ok (d := l.1 + 4) (by omega) (by omega)).1, (vec_ok (d := m.1 + 4) (by omega) (by omega)).1]
  simp only [Option.bind_some, g_spec_l02Of, t_spec_l02Of, g_spec_l01Of, t_spec_l01Of]
  rw [a1, Option.bind_some, a2, Option.bind_some, a3, Option.bind_some, b1, Option.bind_some, b2, Option.bind_some, b3, Option.bind_some, d1, Option.bind_some, c1, Option.bind_some, c2, Option.bind_some, c3, Option.bind_some, d2, Option.bind_some]
  rfl

theorem implMeet {l m : Ln} (hl : okL l = true) (hm : okL m = true) (hne : l.1 ≠ m.1) (hp : (l.1 + m.1) % 2 = 0) : g_impl_Line_meet l m = some (meetN l m, true) := by
  obtain ⟨l0, l1, lb, _⟩ := okL_bd hl
  obtain ⟨m0, m1, mb, _⟩ := okL_bd hm
  obtain ⟨v1, v2⟩ := vec_bd (d := l.1 + 4) (by omega) (by omega)
  obtain ⟨w1, w2⟩ := vec_bd (d := m.1 + 4) (by omega) (by omega)
  have hd := det_bd l0 l1 m0 m1
  have hg := det_good l0 l1 m0 m1 hne hp
  have hb := meetX_bd hl hm
  have a1 := (mul_ok v1 w2 (by decide) (by decide) (by decide) (by decide)).2
  have a2 := (mul_ok v2 w1 (by decide) (by decide) (by decide) (by decide)).2
  have a3 := (sub_ok (mulN_bd (by decide) v1 w2) (mulN_bd (by decide) v2 w1) (by decide) (by decide) (by decide) (by decide) (by decide)).2
  have b1 := (mul_ok lb w2 (by decide) (by decide) (by decide) (by decide)).2
  have b2 := (mul_ok mb v2 (by decide) (by decide) (by decide) (by decide)).2
  have b3 := (sub_ok (mulN_bd (by decide) lb w2) (mulN_bd (by decide) mb v2) (by decide) (by decide) (by decide) (by decide) (by decide)).2
  have c1 := (mul_ok mb v1 (by decide) (by decide) (by decide) (by decide)).2
  have c2 := (mul_ok lb w1 (by decide) (by decide) (by decide) (by decide)).2
  have c3 := (sub_ok (mulN_bd (by decide) mb v1) (mulN_bd (by decide) lb w1) (by decide) (by decide) (by decide) (by decide) (by decide)).2
  have q1 := (quot_of hb.1 hd hg).1
  have q2 := (quot_of hb.2 hd hg).1
  have d1 := (div_ok hb.1 hd (by decide) (by decide) (by decide) (by decide) (by decide) (by decide)).2
  have d2 := (div_ok hb.2 hd (by decide) (by decide) (by decide) (by decide) (by decide) (by decide)).2
  rw [q1] at d1
  rw [q2] at d2
  have a3' : g_impl_Num_minus (mulN (vecN (l.1 + 4)).1 (vecN (m.1 + 4)).2) (mulN (vecN (l.1 + 4)).2 (vecN (m.1 + 4)).1) = some (detD l.1 m.1) := a3
  have b3' : g_impl_Num_minus (mulN l.2 (vecN (m.1 + 4)).2) (mulN m.2 (vecN (l.1 + 4)).2) = some (meetX l m) := b3
  have c3' : g_impl_Num_minus (mulN m.2 (vecN (l.1 + 4)).1) (mulN l.2 (vecN (m.1 + 4)).1) = some (meetY l m) := c3
  rw [g_impl_Line_meet, t_impl_Line_meet, g_impl_Line_normal, t_impl_Line_normal, g_impl_Line_normal, t_impl_Line_normal]
  try simp only
  rw [wrap_id (n := l.1 + 4) (by omega) (by omega), wrap_id (n := m.1 + 4) (by omega) (by omega), (vec_ok (d := l.1 + 4) (by omega) (by omega)).2, (vec_ok (d := m.1 + 4) (by omega) (by omega)).2]
  simp only [Option.bind_some, g_impl_Point_cross, t_impl_Point_cross]
  rw [a1, Option.bind_some, a2, Option.bind_some, a3', Option.bind_some, Option.bind_some, b1, Option.bind_some, b2, Option.bind_some, b3', Option.bind_some, d1, Option.bind_some, c1, Option.bind_some, c2, Option.bind_some, c3', Option.bind_some, d2, Option.bind_some]
  rfl

theorem eqLn (a b : Ln) : ((a.1 == b.1) && (((a.2.1 == b.2.1) && ((a.2.2.1 == b.2.2.1) && ((a.2.2.2 == b.2.2.2) && true))) && true)) = decide (a = b) := by
  obtain ⟨a1, a2, a3, a4⟩ := a
  obtain ⟨b1, b2, b3, b4⟩ := b
  rw [Bool.eq_iff_iff]
  simp only [Bool.and_eq_true, beq_iff_eq, decide_eq_true_eq, Prod.mk.injEq, and_true]

/-- The line in the middle of two that have one direction. -/
def halfL (l m : Ln) : Ln := (l.1, low ((addN l.2 m.2).2.2.toNat + 1) (addN l.2 m.2).1 (addN l.2 m.2).2.1)

def twoL (l m : Ln) : List Ln := cond (decide ((l.1 + m.1) / 2 ≤ 3)) [lnN (meetN l m) ((l.1 + m.1) / 2), lnN (meetN l m) ((l.1 + m.1) / 2 + 4)] [lnN (meetN l m) ((l.1 + m.1) / 2 - 4), lnN (meetN l m) ((l.1 + m.1) / 2)]

def linesN (l m : Ln) : List Ln × Int :=
  cond (okL l && okL m) (cond (decide (l = m)) ([], 7) (cond (decide (l.1 = m.1)) (allL [halfL l m]) (cond (decide ((l.1 + m.1) % 2 = 0)) (allL (twoL l m)) ([], 0)))) ([], 1)

theorem lnN_fit {p : Pt} (hp : Bd 14155776 18 p.1 ∧ Bd 14155776 18 p.2) {d : Int} (h0 : 0 ≤ d) (h1 : d < 8) : fitL (lnN p d) := by
  have hb := dotN_bd (V := 1) (by decide) (vec_bd (d := d + 4) (by omega) (by omega)) hp
  have hi := bd_i64 hb (by decide) (by decide)
  exact ⟨addN_can _ _, by have := hb.2.1; exact Int.le_trans this (by decide), hi.1, hi.2⟩

theorem put_nil (x : Ln) : g_spec_l23Put [] x = some [x] := by
  rw [g_spec_l23Put, t_spec_l23Put, wq_spec_l23Put_3, u_spec_l23Put_3]
  rfl

theorem put_one (x y : Ln) (hne : x.1 ≠ y.1) : g_spec_l23Put [x] y = some (cond (decide (x.1 > y.1)) [y, x] [x, y]) := by
  rw [g_spec_l23Put, t_spec_l23Put, wq_spec_l23Put_3, u_spec_l23Put_3, dec_t (by simp), cond_true, show ((([x] : List Ln).length : Nat) : Int) = 1 from rfl, wrap_id (n := (1 : Int) - 1) (by decide) (by decide),
    show idx [x] ((1 : Int) - 1) = some x from rfl]
  simp only [Option.bind_some]
  by_cases h : x.1 > y.1
  · rw [dec_t h, cond_true, cond_true, wq_spec_l23Put_3, u_spec_l23Put_3]
    rfl
  · rw [dec_f h, cond_false, cond_false, show (x.1 == y.1) = false by simpa using hne, cond_false]
    rfl

theorem specAll_half {l m : Ln} (hl : okL l = true) (hm : okL m = true) : g_spec_l23All [(l.1, halfN (addN l.2 m.2))] = some (allL [halfL l m]) := by
  obtain ⟨l0, l1, lb, _⟩ := okL_bd hl
  obtain ⟨m0, m1, mb, _⟩ := okL_bd hm
  have hb := addN_bd lb mb
  have hh := halfN_bd (by decide) hb
  have hi := bd_i64 hh (by decide) (by decide)
  have hk := hh.1
  have hk' := hh.2.1
  have lo := specLow (a := (halfN (addN l.2 m.2)).1) (b := (halfN (addN l.2 m.2)).2.1) hk (Int.le_trans hk' (by decide)) hi.1 hi.2
  have e : (halfN (addN l.2 m.2)).2.2.toNat = (addN l.2 m.2).2.2.toNat + 1 := by
    have := hb.1
    show ((addN l.2 m.2).2.2 + 1).toNat = _; omega
  rw [e] at lo
  have hn : g_spec_l01Num (halfN (addN l.2 m.2)) = some (cond (okN (halfL l m).2) ((halfL l m).2, true) ((0, (0, 0)), false)) := by
    rw [g_spec_l01Num, t_spec_l01Num]
    have lo' : g_spec_l01Low (halfN (addN l.2 m.2)) = some (halfL l m).2 := lo
    rw [lo']
    simp only [Option.bind_some, spec_okN]
    cases okN (halfL l m).2 <;> rfl
  have hx : g_spec_l23Line (l.1, halfN (addN l.2 m.2)) = some (cond (okN (halfL l m).2) (halfL l m, true) ((0, (0, (0, 0))), false)) := by
    rw [g_spec_l23Line, t_spec_l23Line, hn, Option.bind_some]
    cases okN (halfL l m).2 <;> rfl
  rw [g_spec_l23All, t_spec_l23All, wq_spec_l23All_4, u_spec_l23All_4, dec_t (by simp), cond_true, show idx [(l.1, halfN (addN l.2 m.2))] (0 : Int) = some (l.1, halfN (addN l.2 m.2)) from rfl, Option.bind_some, hx, Option.bind_some]
  unfold allL
  simp only [List.all_cons, List.all_nil, Bool.and_true]
  cases okN (halfL l m).2
  · rfl
  · simp only [cond_true, Bool.not_true, cond_false]
    rw [dec_t (by simp), dec_t (by simp), cond_true, cond_true, wrap_id (n := (0 : Int) + 1) (by decide) (by decide), wq_spec_l23All_4, u_spec_l23All_4, dec_f (by simp), cond_false]
    rfl

theorem tmod2b (a : Int) (h0 : 0 ≤ a) : (Int.tmod a 2 == 1) = decide (a % 2 = 1) := by
  rw [Int.tmod_eq_emod_of_nonneg h0]; rfl

theorem spec_lines (l m : Ln) : g_spec_FoldLines l m = some (linesN l m) := by
  rw [g_spec_FoldLines, t_spec_FoldLines, spec_okL, spec_okL]
  unfold linesN
  simp only [Option.bind_some]
  cases hl : okL l
  · rfl
  cases hm : okL m
  · rfl
  obtain ⟨l0, l1, lb, _⟩ := okL_bd hl
  obtain ⟨m0, m1, mb, _⟩ := okL_bd hm
  rw [eqLn]
  simp only [Bool.not_true, cond_false, Bool.and_self, cond_true]
  by_cases he : l = m
  · rw [dec_t he]; rfl
  · rw [dec_f he, cond_false, cond_false]
    simp only [g_spec_l02LineOf, t_spec_l02LineOf, g_spec_l01Of, t_spec_l01Of, Option.bind_some]
    by_cases hd : l.1 = m.1
    · rw [show (l.1 == m.1) = true by simpa using hd, dec_t hd, cond_true, cond_true]
      have hb := addN_bd lb mb
      rw [(add_ok lb mb (by decide) (by decide) (by decide) (by decide) (by decide)).1, Option.bind_some, specHalf _ hb.1 (Int.le_trans hb.2.1 (by decide)), Option.bind_some, List.nil_append, specAll_half hl hm]
      rfl
    · rw [show (l.1 == m.1) = false by simpa using hd, dec_f hd, cond_false, cond_false, wrap_id (n := l.1 + m.1) (by omega) (by omega), tmod2]
      by_cases hp : (l.1 + m.1) % 2 = 0
      · have hb := meetN_bd hl hm hd hp
        rw [dec_t hp, cond_true, cond_true, specMeet hl hm hd hp, Option.bind_some, Int.tdiv_eq_ediv_of_nonneg (by omega), wrap_id (n := (l.1 + m.1) / 2) (by omega) (by omega), wrap_id (n := (l.1 + m.1) / 2 + 4) (by omega) (by omega),
          through_ok (by omega) (by omega) (by decide) (by decide) hb (by decide), Option.bind_some, put_nil, Option.bind_some, through_ok (by omega) (by omega) (by decide) (by decide) hb (by decide), Option.bind_some,
          put_one _ _ (show (l.1 + m.1) / 2 % 8 ≠ ((l.1 + m.1) / 2 + 4) % 8 by omega), Option.bind_some]
        have hlist : cond (decide ((lnN (meetN l m) ((l.1 + m.1) / 2 % 8)).1 > (lnN (meetN l m) (((l.1 + m.1) / 2 + 4) % 8)).1)) [lnN (meetN l m) (((l.1 + m.1) / 2 + 4) % 8), lnN (meetN l m) ((l.1 + m.1) / 2 % 8)] [lnN (meetN l m) ((l.1 + m.1) / 2 % 8), lnN (meetN l m) (((l.1 + m.1) / 2 + 4) % 8)] = twoL l m := by
          unfold twoL
          rw [show (l.1 + m.1) / 2 % 8 = (l.1 + m.1) / 2 by omega]
          by_cases h3 : (l.1 + m.1) / 2 ≤ 3
          · rw [dec_t h3, cond_true, show ((l.1 + m.1) / 2 + 4) % 8 = (l.1 + m.1) / 2 + 4 by omega, dec_f (show ¬ (lnN (meetN l m) ((l.1 + m.1) / 2)).1 > (lnN (meetN l m) ((l.1 + m.1) / 2 + 4)).1 from (by show ¬ (l.1 + m.1) / 2 > (l.1 + m.1) / 2 + 4; omega))]; rfl
          · rw [dec_f h3, cond_false, show ((l.1 + m.1) / 2 + 4) % 8 = (l.1 + m.1) / 2 - 4 by omega, dec_t (show (lnN (meetN l m) ((l.1 + m.1) / 2)).1 > (lnN (meetN l m) ((l.1 + m.1) / 2 - 4)).1 from (by show (l.1 + m.1) / 2 > (l.1 + m.1) / 2 - 4; omega))]; rfl
        rw [hlist, specAll (twoL l m) (by unfold twoL; cases decide ((l.1 + m.1) / 2 ≤ 3) <;> simp) ?_]
        · rfl
        · intro x hx
          unfold twoL at hx
          by_cases h3 : (l.1 + m.1) / 2 ≤ 3
          · rw [dec_t h3, cond_true] at hx
            simp only [List.mem_cons, List.not_mem_nil, or_false] at hx
            rcases hx with rfl | rfl
            · exact lnN_fit hb (by omega) (by omega)
            · exact lnN_fit hb (by omega) (by omega)
          · rw [dec_f h3, cond_false] at hx
            simp only [List.mem_cons, List.not_mem_nil, or_false] at hx
            rcases hx with rfl | rfl
            · exact lnN_fit hb (by omega) (by omega)
            · exact lnN_fit hb (by omega) (by omega)
      · rw [dec_f hp, cond_false, cond_false, specAll [] (by simp) (fun x hx => (List.not_mem_nil hx).elim)]
        rfl

theorem impl_lines (l m : Ln) : g_impl_FoldLines l m = some (linesN l m) := by
  rw [g_impl_FoldLines, t_impl_FoldLines, impl_okL, impl_okL]
  unfold linesN
  simp only [Option.bind_some]
  cases hl : okL l
  · rfl
  cases hm : okL m
  · rfl
  obtain ⟨l0, l1, lb, _⟩ := okL_bd hl
  obtain ⟨m0, m1, mb, _⟩ := okL_bd hm
  rw [eqLn]
  simp only [Bool.not_true, cond_false, Bool.and_self, cond_true]
  by_cases he : l = m
  · rw [dec_t he]; rfl
  · rw [dec_f he, cond_false, cond_false, wrap_id (n := l.1 + m.1) (by omega) (by omega), tmod2b _ (by omega)]
    by_cases hd : l.1 = m.1
    · rw [dec_f (show ¬ (l.1 + m.1) % 2 = 1 by omega), cond_false, show (l.1 == m.1) = true by simpa using hd, dec_t hd, cond_true, cond_true]
      have hb := addN_bd lb mb
      rw [(add_ok lb mb (by decide) (by decide) (by decide) (by decide) (by decide)).2, Option.bind_some, implHalf hb (by decide) (by decide) (by decide), Option.bind_some]
      have h := results_rise [halfL l m] (by simp) (fun x hx => by simp only [List.mem_cons, List.not_mem_nil, or_false] at hx; subst hx; exact ⟨l0, l1⟩) trivial
      have h' : g_impl_lineResults [(l.1, low ((addN l.2 m.2).2.2.toNat + 1) (addN l.2 m.2).1 (addN l.2 m.2).2.1)] = _ := h
      rw [h']; rfl
    · by_cases hp : (l.1 + m.1) % 2 = 0
      · have hb := meetN_bd hl hm hd hp
        rw [dec_f (show ¬ (l.1 + m.1) % 2 = 1 by omega), cond_false, show (l.1 == m.1) = false by simpa using hd, dec_f hd, cond_false, cond_false, dec_t hp, cond_true, implMeet hl hm hd hp, Option.bind_some]
        simp only [Bool.not_true, cond_false]
        rw [Int.tdiv_eq_ediv_of_nonneg (by omega), wrap_id (n := (l.1 + m.1) / 2) (by omega) (by omega), wrap_id (n := (l.1 + m.1) / 2 + 4) (by omega) (by omega), Int.tmod_eq_emod_of_nonneg (by omega),
          lineAt_ok (by omega) (by omega) (by decide) (by decide) hb (by decide), Option.bind_some, lineAt_ok (by omega) (by omega) (by decide) (by decide) hb (by decide), Option.bind_some]
        unfold twoL
        by_cases h3 : (l.1 + m.1) / 2 ≤ 3
        · rw [dec_t h3, cond_true, show ((l.1 + m.1) / 2 + 4) % 8 = (l.1 + m.1) / 2 + 4 by omega,
            results_rise [lnN (meetN l m) ((l.1 + m.1) / 2), lnN (meetN l m) ((l.1 + m.1) / 2 + 4)] (by simp) (fun x hx => by
              simp only [List.mem_cons, List.not_mem_nil, or_false] at hx
              rcases hx with rfl | rfl
              · exact ⟨by show 0 ≤ (l.1 + m.1) / 2; omega, by show (l.1 + m.1) / 2 ≤ 7; omega⟩
              · exact ⟨by show 0 ≤ (l.1 + m.1) / 2 + 4; omega, by show (l.1 + m.1) / 2 + 4 ≤ 7; omega⟩) ⟨by show (l.1 + m.1) / 2 < (l.1 + m.1) / 2 + 4; omega, trivial⟩]
          rfl
        · rw [dec_f h3, cond_false, show ((l.1 + m.1) / 2 + 4) % 8 = (l.1 + m.1) / 2 - 4 by omega,
            results_swap (lnN (meetN l m) ((l.1 + m.1) / 2)) (lnN (meetN l m) ((l.1 + m.1) / 2 - 4)) ⟨by show 0 ≤ (l.1 + m.1) / 2; omega, by show (l.1 + m.1) / 2 ≤ 7; omega⟩
              ⟨by show 0 ≤ (l.1 + m.1) / 2 - 4; omega, by show (l.1 + m.1) / 2 - 4 ≤ 7; omega⟩ (by show (l.1 + m.1) / 2 - 4 < (l.1 + m.1) / 2; omega)]
          rfl
      · rw [dec_t (show (l.1 + m.1) % 2 = 1 by omega), cond_true, dec_f hd, cond_false, dec_f hp, cond_false]

theorem linesN_length (l m : Ln) : (linesN l m).1.length ≤ 1000 := by
  unfold linesN
  cases okL l && okL m
  · exact Nat.zero_le _
  · cases decide (l = m)
    · cases decide (l.1 = m.1)
      · cases decide ((l.1 + m.1) % 2 = 0)
        · exact Nat.zero_le _
        · exact allL_length _ (by unfold twoL; cases decide ((l.1 + m.1) / 2 ≤ 3) <;> simp)
      · exact allL_length _ (by simp)
    · exact Nat.zero_le _

theorem law_FoldLines (l m : Ln) : g_laws_FnExactFoldLines l m = some true := by
  rw [g_laws_FnExactFoldLines, t_laws_FnExactFoldLines]
  have hl := linesN_length l m
  simp only [toLine_id, spec_lines, impl_lines, Option.bind_some, eqLns_self _ hl, markLn_ok _ hl, heldLn_ok _ hl, Bool.not_true, cond_true, cond_false, bne_self_eq_false, decide_true]
  rw [dec_f (show ¬ (1 + 4 * ((linesN l m).1.length : Int) < 0) by omega)]
  rfl
end Go.Proofs.YtooaomcmhgpbpaaDoor
