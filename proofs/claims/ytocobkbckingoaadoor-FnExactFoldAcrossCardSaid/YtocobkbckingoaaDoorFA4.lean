/- Halves, lines that align. No conditions. -/
import Derived.Test.YtocobkbckingoaaDoorFA3
namespace Go.Proofs.YtocobkbckingoaaDoor
open Go.Vai
/-! halves -/
def halfN (x : Nm) : Nm := (x.1, (x.2.1, x.2.2 + 1))
theorem halfN_bd {V : Int} {κ : Nat} {x : Nm} (hV : 0 ≤ V) (h : Bd V κ x) : Bd V (κ + 1) (halfN x) := by
  obtain ⟨h1, h2, h3, h4⟩ := h
  have e : (x.2.2 + 1).toNat = x.2.2.toNat + 1 := by omega
  have hp : 0 ≤ V * 2 ^ x.2.2.toNat := Int.mul_nonneg hV (Int.le_of_lt (Int.pow_pos (by decide)))
  have e2 : V * 2 ^ (x.2.2.toNat + 1) = 2 * (V * 2 ^ x.2.2.toNat) := by rw [Int.pow_succ]; grind
  refine ⟨?_, ?_, ?_, ?_⟩
  · show 0 ≤ x.2.2 + 1; omega
  · show x.2.2 + 1 ≤ ((κ + 1 : Nat) : Int); omega
  · show -(V * 2 ^ (x.2.2 + 1).toNat) ≤ x.1 ∧ x.1 ≤ V * 2 ^ (x.2.2 + 1).toNat
    rw [e, e2]; omega
  · show -(V * 2 ^ (x.2.2 + 1).toNat) ≤ x.2.1 ∧ x.2.1 ≤ V * 2 ^ (x.2.2 + 1).toNat
    rw [e, e2]; omega
theorem halfN_vA {x : Nm} (h : 0 ≤ x.2.2) : vA (halfN x) = vA x / 2 := by
  have e : (x.2.2 + 1).toNat = x.2.2.toNat + 1 := by omega
  show (x.1 : Rat) / 2 ^ (x.2.2 + 1).toNat = vA x / 2
  unfold vA
  rw [e, Rat.pow_succ]
  have := two_pow_ne x.2.2.toNat
  grind
theorem halfN_vB {x : Nm} (h : 0 ≤ x.2.2) : vB (halfN x) = vB x / 2 := by
  have e : (x.2.2 + 1).toNat = x.2.2.toNat + 1 := by omega
  show (x.2.1 : Rat) / 2 ^ (x.2.2 + 1).toNat = vB x / 2
  unfold vB
  rw [e, Rat.pow_succ]
  have := two_pow_ne x.2.2.toNat
  grind
theorem specHalf (x : Nm) (h0 : 0 ≤ x.2.2) (h : x.2.2 ≤ 1000) : g_spec_l23Half x = some (halfN x) := by
  rw [g_spec_l23Half, t_spec_l23Half, wrap_id (n := x.2.2 + 1) (by omega) (by omega)]; rfl

/-! the line of a direction that aligns a point with a line -/
def byN (d : Int) (l : Int) : Nm := dotN (vecN (l + 4)) (vecN (d + 4))

def byGood (y : Nm) : Bool :=
  decide (y.2.2 = 0) && ((decide (y.1 = 0) && decide (y.2.1 = 0)) ||
    (decide (y.1 * y.1 - 2 * y.2.1 * y.2.1 ≠ 0) && (decide ((oddP 64 (y.1 * y.1 - 2 * y.2.1 * y.2.1)).1 = 1) || decide ((oddP 64 (y.1 * y.1 - 2 * y.2.1 * y.2.1)).1 = -1)) && decide ((oddP 64 (y.1 * y.1 - 2 * y.2.1 * y.2.1)).2 ≤ 8) &&
      (decide ((2 * y.1) * (2 * y.1) - 2 * (2 * y.2.1) * (2 * y.2.1) ≠ 0) && (decide ((oddP 64 ((2 * y.1) * (2 * y.1) - 2 * (2 * y.2.1) * (2 * y.2.1))).1 = 1) || decide ((oddP 64 ((2 * y.1) * (2 * y.1) - 2 * (2 * y.2.1) * (2 * y.2.1))).1 = -1)) && decide ((oddP 64 ((2 * y.1) * (2 * y.1) - 2 * (2 * y.2.1) * (2 * y.2.1))).2 ≤ 8))))

theorem by_all : ((List.range 8).all fun a => (List.range 8).all fun d => byGood (byN (d : Int) (a : Int))) = true := by decide +kernel

theorem by_good {d l : Int} (h0 : 0 ≤ d) (h1 : d < 8) (h2 : 0 ≤ l) (h3 : l < 8) : byGood (byN d l) = true := by
  have h := List.all_eq_true.1 (List.all_eq_true.1 by_all l.toNat (by simp; omega)) d.toNat (by simp; omega)
  rw [Int.toNat_of_nonneg h0, Int.toNat_of_nonneg h2] at h
  exact h

theorem byN_bd {d l : Int} (h0 : 0 ≤ d) (h1 : d < 8) (h2 : 0 ≤ l) (h3 : l < 8) : Bd 6 0 (byN d l) :=
  dotN_bd (V := 1) (by decide) (vec_bd (d := l + 4) (by omega) (by omega)) (vec_bd (d := d + 4) (by omega) (by omega))

/-- What is missing. -/
def restN (p : Pt) (l : Ln) : Nm := subN l.2 (dotN (vecN (l.1 + 4)) p)
def wayN (d : Int) (p : Pt) (l : Ln) : Nm := (divN (mulN (restN p l) (sqN (d + 4))) (addN (byN d l.1) (byN d l.1))).1
def alN (d : Int) (p : Pt) (l : Ln) : Ln := (d, addN (dotN (vecN (d + 4)) p) (wayN d p l))
def isZ (x : Nm) : Bool := decide (x.1 = 0 ∧ x.2.1 = 0)

def moveN (d : Int) (p : Pt) (l : Ln) : Ln × Int :=
  cond (isZ (byN d l.1)) (cond (isZ (restN p l)) ((0, (0, (0, 0))), 2) ((0, (0, (0, 0))), 0)) (alN d p l, 1)

theorem restN_bd {p : Pt} {l : Ln} (h0 : 0 ≤ l.1) (h1 : l.1 ≤ 7) (hl : Bd 131072 10 l.2) (hp : Bd 131072 10 p.1 ∧ Bd 131072 10 p.2) : Bd 917504 10 (restN p l) :=
  subN_bd hl (dotN_bd (V := 1) (by decide) (vec_bd (d := l.1 + 4) (by omega) (by omega)) hp)

theorem way_facts {d : Int} {p : Pt} {l : Ln} (h0 : 0 ≤ d) (h1 : d < 8) (hl0 : 0 ≤ l.1) (hl1 : l.1 ≤ 7) (hl : Bd 131072 10 l.2) (hp : Bd 131072 10 p.1 ∧ Bd 131072 10 p.2) (hz : isZ (byN d l.1) = false) :
    ∃ t, divN (mulN (restN p l) (sqN (d + 4))) (byN d l.1) = (t, true) ∧ Bd 396361728 18 t ∧
      divN (mulN (restN p l) (sqN (d + 4))) (addN (byN d l.1) (byN d l.1)) = (wayN d p l, true) ∧ Bd 396361728 18 (wayN d p l) ∧ ∀ y, addN y (halfN t) = addN y (wayN d p l) := by
  have hg := by_good h0 h1 hl0 (by omega : l.1 < 8)
  have hy := byN_bd h0 h1 hl0 (by omega : l.1 < 8)
  have hr := restN_bd hl0 hl1 hl hp
  have hx := mulN_bd (by decide) hr (sqN_bd (d := d + 4) (by omega) (by omega))
  simp only [byGood, Bool.and_eq_true, Bool.or_eq_true, decide_eq_true_eq] at hg
  obtain ⟨hy0, hg⟩ := hg
  have hg := hg.resolve_left (fun e => by
    unfold isZ at hz
    rw [dec_t e] at hz
    cases hz)
  obtain ⟨⟨⟨g1, g2⟩, g3⟩, ⟨g4, g5⟩, g6⟩ := hg
  have htw := twice hy0
  have hy2 : Bd 12 0 (addN (byN d l.1) (byN d l.1)) := by
    have := addN_bd hy hy
    exact this
  obtain ⟨t, t1, t2, t3, t4, t5⟩ := divN_unit (by decide) hx hy (m := (oddP 64 ((byN d l.1).1 * (byN d l.1).1 - 2 * (byN d l.1).2.1 * (byN d l.1).2.1)).1) (t := (oddP 64 ((byN d l.1).1 * (byN d l.1).1 - 2 * (byN d l.1).2.1 * (byN d l.1).2.1)).2) rfl g2 g1
  have e1 : (addN (byN d l.1) (byN d l.1)).1 = 2 * (byN d l.1).1 := by rw [htw]
  have e2 : (addN (byN d l.1) (byN d l.1)).2.1 = 2 * (byN d l.1).2.1 := by rw [htw]
  obtain ⟨s, s1, s2, s3, s4, s5⟩ := divN_unit (by decide) hx hy2 (m := (oddP 64 ((2 * (byN d l.1).1) * (2 * (byN d l.1).1) - 2 * (2 * (byN d l.1).2.1) * (2 * (byN d l.1).2.1))).1) (t := (oddP 64 ((2 * (byN d l.1).1) * (2 * (byN d l.1).1) - 2 * (2 * (byN d l.1).2.1) * (2 * (byN d l.1).2.1))).2) (by rw [e1, e2]) g5 (by rw [e1, e2]; exact g4)
  have hw : wayN d p l = s := by unfold wayN; rw [s1]
  refine ⟨t, t1, t3.mono (by decide) (by omega), ?_, ?_, ?_⟩
  · rw [hw]; exact s1
  · rw [hw]; exact s3.mono (by decide) (by omega)
  · intro y
    rw [hw]
    rw [e1, e2] at s4 s5
    have hN : (((byN d l.1).1 * (byN d l.1).1 - 2 * (byN d l.1).2.1 * (byN d l.1).2.1 : Int) : Rat) ≠ 0 := fun e => g1 (Rat.intCast_inj.1 e)
    have hN2 : (((2 * (byN d l.1).1) * (2 * (byN d l.1).1) - 2 * (2 * (byN d l.1).2.1) * (2 * (byN d l.1).2.1) : Int) : Rat) = 4 * (((byN d l.1).1 * (byN d l.1).1 - 2 * (byN d l.1).2.1 * (byN d l.1).2.1 : Int) : Rat) := by
      have : (2 * (byN d l.1).1) * (2 * (byN d l.1).1) - 2 * (2 * (byN d l.1).2.1) * (2 * (byN d l.1).2.1) = 4 * ((byN d l.1).1 * (byN d l.1).1 - 2 * (byN d l.1).2.1 * (byN d l.1).2.1) := by grind
      rw [this, Rat.intCast_mul]; rfl
    have c2 : ∀ z : Int, ((2 * z : Int) : Rat) = 2 * (z : Rat) := fun z => by rw [Rat.intCast_mul]; rfl
    rw [hN2, c2, c2] at s4 s5
    refine can_unique (addN_can _ _) (addN_can _ _) ?_ ?_
    · rw [addN_vA, addN_vA, halfN_vA t2.1, t4, s4]
      generalize (((byN d l.1).1 * (byN d l.1).1 - 2 * (byN d l.1).2.1 * (byN d l.1).2.1 : Int) : Rat) = N at *
      grind
    · rw [addN_vB, addN_vB, halfN_vB t2.1, t5, s5]
      generalize (((byN d l.1).1 * (byN d l.1).1 - 2 * (byN d l.1).2.1 * (byN d l.1).2.1 : Int) : Rat) = N at *
      grind

theorem alN_bd {d : Int} {p : Pt} {l : Ln} (h0 : 0 ≤ d) (h1 : d < 8) (hl0 : 0 ≤ l.1) (hl1 : l.1 ≤ 7) (hl : Bd 131072 10 l.2) (hp : Bd 131072 10 p.1 ∧ Bd 131072 10 p.2) (hz : isZ (byN d l.1) = false) : Bd 397148160 18 (alN d p l).2 := by
  obtain ⟨t, _, _, _, hw, _⟩ := way_facts h0 h1 hl0 hl1 hl hp hz
  have := addN_bd (dotN_bd (V := 1) (by decide) (vec_bd (d := d + 4) (by omega) (by omega)) hp) hw
  exact this.mono (by decide) (by decide)

theorem move_ok {d : Int} {p : Pt} {l : Ln} (h0 : 0 ≤ d) (h1 : d < 8) (hl0 : 0 ≤ l.1) (hl1 : l.1 ≤ 7) (hl : Bd 131072 10 l.2) (hp : Bd 131072 10 p.1 ∧ Bd 131072 10 p.2) :
    g_spec_l23Move d p l = some (moveN d p l) ∧ g_impl_aligning d p l = some (moveN d p l) := by
  have hd0 : 0 ≤ d + 4 := by omega
  have hd1 : d + 4 < 16 := by omega
  have hl4 : 0 ≤ l.1 + 4 := by omega
  have hl5 : l.1 + 4 < 16 := by omega
  have hwd : IntKind.wrap .i64 (d + 4) = d + 4 := wrap_id (by omega) (by omega)
  have hwl : IntKind.wrap .i64 (l.1 + 4) = l.1 + 4 := wrap_id (by omega) (by omega)
  have dby := dot_ok (d := l.1 + 4) hl4 hl5 (by decide) (by decide) (vec_bd hd0 hd1) (by decide)
  have dp := dot_ok (d := l.1 + 4) hl4 hl5 (by decide) (by decide) hp (by decide)
  have dpd := dot_ok (d := d + 4) hd0 hd1 (by decide) (by decide) hp (by decide)
  have hdl := dotN_bd (V := 1) (by decide) (vec_bd hl4 hl5) hp
  have sr := sub_ok hl hdl (by decide) (by decide) (by decide) (by decide) (by decide)
  have hr := restN_bd hl0 hl1 hl hp
  have hsq := sqN_bd (d := d + 4) hd0 hd1
  have mr := mul_ok hr hsq (by decide) (by decide) (by decide) (by decide)
  have hx := mulN_bd (by decide) hr hsq
  have hy := byN_bd h0 h1 hl0 (by omega : l.1 < 8)
  have ay := add_ok hy hy (by decide) (by decide) (by decide) (by decide) (by decide)
  have hy2 : Bd 12 0 (addN (byN d l.1) (byN d l.1)) := addN_bd hy hy
  have dv1 := div_ok hx hy (by decide) (by decide) (by decide) (by decide) (by decide) (by decide)
  have dv2 := div_ok hx hy2 (by decide) (by decide) (by decide) (by decide) (by decide) (by decide)
  have hbyc : (byN d l.1).can := addN_can _ _
  have hrc : (restN p l).can := subN_can _ _
  have hdpb := dotN_bd (V := 1) (by decide) (vec_bd hd0 hd1) hp
  constructor
  · rw [g_spec_l23Move, t_spec_l23Move, hwd, hwl, (vec_ok hd0 hd1).1]
    simp only [Option.bind_some, g_spec_l02Of, t_spec_l02Of, g_spec_l01Of, t_spec_l01Of]
    have dby1 : g_spec_l02Dot (l.1 + 4) ((vecN (d + 4)).1, (vecN (d + 4)).2) = some (byN d l.1) := dby.1
    rw [dby1, Option.bind_some, dp.1, Option.bind_some, sr.1, Option.bind_some, zero_ok, Option.bind_some]
    unfold moveN
    show cond (isZ (byN d l.1)) _ _ = _
    cases hz : isZ (byN d l.1)
    · obtain ⟨t, w1, w2, w3, w4, w5⟩ := way_facts h0 h1 hl0 hl1 hl hp hz
      have hb := halfN_bd (by decide) w2
      have aa := (add_ok hdpb hb (by decide) (by decide) (by decide) (by decide) (by decide)).1
      rw [w1] at dv1
      rw [cond_false, cond_false, specSq hd0 hd1, Option.bind_some]
      have mr1 : g_spec_l01Mul (subN l.2 (dotN (vecN (l.1 + 4)) p)) (sqN (d + 4)) = _ := mr.1
      rw [mr1, Option.bind_some, dv1.1, Option.bind_some, dpd.1, Option.bind_some]
      simp only
      rw [specHalf t w2.1 (by have := w2.2.1; omega), Option.bind_some, aa, Option.bind_some, w5]
      rfl
    · rw [cond_true, cond_true, zero_ok, Option.bind_some]
      show cond (isZ (restN p l)) _ _ = _
      cases isZ (restN p l) <;> rfl
  · rw [g_impl_aligning, t_impl_aligning, hwd, (vec_ok hd0 hd1).2, g_impl_Line_normal, t_impl_Line_normal]
    simp only [Option.bind_some]
    rw [hwl, (vec_ok hl4 hl5).2]
    simp only [Option.bind_some]
    have dby2 : g_impl_Point_dot (vecN (l.1 + 4)) (vecN (d + 4)) = some (byN d l.1) := dby.2
    have sr2 : g_impl_Num_minus l.2 (dotN (vecN (l.1 + 4)) p) = some (restN p l) := sr.2
    rw [dby2, Option.bind_some, dp.2, Option.bind_some, sr2, Option.bind_some, num_zero hbyc, num_zero hrc]
    unfold moveN
    show cond (isZ (byN d l.1)) (cond (isZ (restN p l)) _ _) _ = _
    cases hz : isZ (byN d l.1)
    · obtain ⟨t, w1, w2, w3, w4, w5⟩ := way_facts h0 h1 hl0 hl1 hl hp hz
      have aa := (add_ok hdpb w4 (by decide) (by decide) (by decide) (by decide) (by decide)).2
      rw [w3] at dv2
      rw [cond_false, cond_false, implSq hd0 hd1, Option.bind_some, mr.2, Option.bind_some, ay.2, Option.bind_some, dv2.2, Option.bind_some]
      simp only [Bool.not_true, cond_false]
      rw [dpd.2, Option.bind_some, aa, Option.bind_some]
      rfl
    · rw [cond_true, cond_true]
      cases isZ (restN p l) <;> rfl

end Go.Proofs.YtocobkbckingoaaDoor
