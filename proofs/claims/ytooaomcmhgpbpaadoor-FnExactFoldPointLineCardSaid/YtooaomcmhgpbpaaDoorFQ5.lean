/- The plain law on FoldPointLine. No conditions. -/
import Derived.Test.YtooaomcmhgpbpaaDoorFQ4
namespace Go.Proofs.YtooaomcmhgpbpaaDoor
open Go.Vai
theorem okL_bd {l : Ln} (h : okL l = true) : 0 ≤ l.1 ∧ l.1 ≤ 7 ∧ Bd 131072 10 l.2 ∧ l.2.can := by
  simp only [okL, Bool.and_eq_true, decide_eq_true_eq] at h
  exact ⟨h.1.1, h.1.2, okN_bd h.2, okN_can h.2⟩

/-- How far a point is from a line. -/
def offN (l : Ln) (p : Pt) : Nm := subN (dotN (vecN (l.1 + 4)) p) l.2

theorem side_ok {V : Int} {κ : Nat} {l : Ln} {p : Pt} (h0 : 0 ≤ l.1) (h1 : l.1 ≤ 7) (hl : Bd 131072 10 l.2) (hV : 0 ≤ V) (hκ : 10 ≤ κ) (hκ' : κ ≤ 50) (hp : Bd V κ p.1 ∧ Bd V κ p.2) (h : (131072 + 6 * V) * 2 ^ κ ≤ 4611686018427387904) :
    g_spec_l02Side l p = g_spec_l01Sign (offN l p) ∧ g_impl_Line_side l p = g_impl_Num_sign (offN l p) := by
  have hd0 : 0 ≤ l.1 + 4 := by omega
  have hd1 : l.1 + 4 < 16 := by omega
  have hpp : (0 : Int) < 2 ^ κ := Int.pow_pos (by decide)
  have e1 : (131072 + 6 * V) * 2 ^ κ = 131072 * 2 ^ κ + 6 * V * 2 ^ κ := Int.add_mul ..
  have okdot := dot_ok (d := l.1 + 4) hd0 hd1 hV (by omega) hp (by omega)
  have hdot := dotN_bd (V := 1) (by decide) (vec_bd hd0 hd1) hp
  have hdot : Bd (6 * V) κ (dotN (vecN (l.1 + 4)) p) := hdot.mono (by omega) (by omega)
  have hmax : max κ 10 = κ := by omega
  have s := sub_ok hdot hl (by omega) (by decide) (by omega) (by decide) (by rw [hmax, Int.add_comm]; exact h)
  have hw : IntKind.wrap .i64 (l.1 + 4) = l.1 + 4 := wrap_id (by omega) (by omega)
  constructor
  · rw [g_spec_l02Side, t_spec_l02Side, hw, okdot.1, Option.bind_some, s.1, Option.bind_some]
    show (g_spec_l01Sign (offN l p)).bind (fun y => some y) = _
    cases g_spec_l01Sign (offN l p) <;> rfl
  · rw [g_impl_Line_side, t_impl_Line_side, g_impl_Line_normal, t_impl_Line_normal]
    try simp only
    rw [hw, (vec_ok hd0 hd1).2]
    simp only [Option.bind_some]
    rw [okdot.2, Option.bind_some, s.2, Option.bind_some]
    show (g_impl_Num_sign (offN l p)).bind (fun y => some y) = _
    cases g_impl_Num_sign (offN l p) <;> rfl

/-- Does the line of a direction through 'q' bring 'p' to 'l'? -/
def brings (p : Pt) (l : Ln) (q : Pt) (d : Int) : Bool := decide ((offN l (reflN (lnN q d) p)).1 = 0 ∧ (offN l (reflN (lnN q d) p)).2.1 = 0)

def pointFrom (p : Pt) (l : Ln) (q : Pt) : Nat → Int → List Ln
  | 0, _ => []
  | n + 1, d => cond (brings p l q d) [lnN q d] [] ++ pointFrom p l q n (d + 1)

theorem pointFrom_mem (p : Pt) (l : Ln) (q : Pt) : ∀ (n : Nat) (d : Int) (x : Ln), x ∈ pointFrom p l q n d → ∃ e, d ≤ e ∧ e < d + n ∧ x = lnN q e
  | 0, d, x, h => (List.not_mem_nil h).elim
  | n + 1, d, x, h => by
    rcases List.mem_append.1 h with h | h
    · cases hb : brings p l q d
      · rw [hb] at h; cases h
      · rw [hb, cond_true] at h
        simp only [List.mem_cons, List.not_mem_nil, or_false] at h
        exact ⟨d, Int.le_refl _, by omega, h⟩
    · obtain ⟨e, h1, h2, h3⟩ := pointFrom_mem p l q n (d + 1) x h
      exact ⟨e, by omega, by omega, h3⟩

theorem pointFrom_length (p : Pt) (l : Ln) (q : Pt) : ∀ (n : Nat) (d : Int), (pointFrom p l q n d).length ≤ n
  | 0, d => Nat.le_refl _
  | n + 1, d => by
    have := pointFrom_length p l q n (d + 1)
    simp only [pointFrom, List.length_append]
    cases brings p l q d <;> simp only [cond_true, cond_false, List.length_nil, List.length_singleton] <;> omega

theorem rises_cons {x : Ln} : ∀ {l : List Ln}, (∀ y, y ∈ l → x.1 < y.1) → rises l → rises (x :: l)
  | [], _, _ => trivial
  | y :: r, h, hr => ⟨h y (by simp), hr⟩

theorem pointFrom_rises (p : Pt) (l : Ln) (q : Pt) : ∀ (n : Nat) (d : Int), rises (pointFrom p l q n d)
  | 0, d => trivial
  | n + 1, d => by
    have ih := pointFrom_rises p l q n (d + 1)
    simp only [pointFrom]
    cases brings p l q d
    · exact ih
    · simp only [cond_true, List.singleton_append]
      refine rises_cons (fun z hz => ?_) ih
      obtain ⟨e, h1, _, rfl⟩ := pointFrom_mem p l q n (d + 1) z hz
      show d < e
      omega

theorem line_bd {q : Pt} (hq : okP q = true) {d : Int} (h0 : 0 ≤ d) (h1 : d < 8) : Bd 786432 10 (lnN q d).2 :=
  dotN_bd (V := 1) (by decide) (vec_bd (d := d + 4) (by omega) (by omega)) (okP_bd hq)

section
variable {p q : Pt} {l : Ln} (hp : okP p = true) (hl : okL l = true) (hq : okP q = true)
include hp hl hq

theorem aligned_ok {d : Int} (h0 : 0 ≤ d) (h1 : d < 8) : g_spec_l23Aligned (lnN q d) p l = some (brings p l q d) ∧
    ∃ y s, g_impl_Line_reflect (lnN q d) p = some y ∧ g_impl_Line_side l y = some s ∧ (s == 0) = brings p l q d := by
  obtain ⟨l0, l1, lb, _⟩ := okL_bd hl
  have bp := okP_bd hp
  have bl := line_bd hq h0 h1
  have d0 : 0 ≤ (lnN q d).1 := h0
  have d1 : (lnN q d).1 ≤ 7 := by show d ≤ 7; omega
  have hr := reflect_ok d0 d1 bl (by decide) (by decide) (by decide) bp (by decide)
  have hrb := reflN_bd d0 d1 bl (by decide) (by decide) bp
  have hs := side_ok l0 l1 lb (by decide) (by decide) (by decide) hrb (by decide)
  constructor
  · rw [g_spec_l23Aligned, t_spec_l23Aligned, hr.1, Option.bind_some, hs.1]
    obtain ⟨s, k1, k2⟩ := specSign_zero (offN l (reflN (lnN q d) p))
    rw [k1, Option.bind_some]
    congr 1
    unfold brings
    rw [show (s == 0) = decide (s = 0) from rfl]
    by_cases h : s = 0
    · rw [dec_t h, dec_t (k2.1 h)]
    · rw [dec_f h, dec_f (fun e => h (k2.2 e))]
  · obtain ⟨s, k1, k2⟩ := implSign_zero (offN l (reflN (lnN q d) p))
    refine ⟨_, s, hr.2, by rw [hs.2, k1], ?_⟩
    unfold brings
    rw [show (s == 0) = decide (s = 0) from rfl]
    by_cases h : s = 0
    · rw [dec_t h, dec_t (k2.1 h)]
    · rw [dec_f h, dec_f (fun e => h (k2.2 e))]

theorem point_spec_loop : ∀ (n : Nat) (d : Int) (acc : List Ln), 0 ≤ d → d + n = 8 → acc.length ≤ 900 - n →
    w_spec_FoldPointLine_6 (m_spec_FoldPointLine_6 acc d p.1.1 p.1.2.1 p.1.2.2 p.2.1 p.2.2.1 p.2.2.2 l.1 l.2.1 l.2.2.1 l.2.2.2 q.1.1 q.1.2.1 q.1.2.2 q.2.1 q.2.2.1 q.2.2.2) = some (.inl (d_spec_FoldPointLine_6_0 (acc ++ pointFrom p l q n d)))
  | 0, d, acc, h0, h1, ha => by
    rw [wq_spec_FoldPointLine_6, u_spec_FoldPointLine_6, dec_f (by omega), cond_false]
    simp only [pointFrom, List.append_nil]; rfl
  | n + 1, d, acc, h0, h1, ha => by
    have IH := fun acc' => point_spec_loop n (d + 1) acc' (by omega) (by omega)
    have bq := okP_bd hq
    have hal := (aligned_ok hp hl hq h0 (by omega)).1
    have k1 : decide ((acc.length + 1) * 32 ≤ 70368744177664) = true := dec_t (by omega)
    have k2 : decide (acc.length + 1 ≤ 70368744177664) = true := dec_t (by omega)
    rw [wq_spec_FoldPointLine_6, u_spec_FoldPointLine_6, dec_t (by omega), cond_true, wrap_id (n := d + 1) (by omega) (by omega)]
    simp only [g_spec_l02LineOf, t_spec_l02LineOf, g_spec_l02Of, t_spec_l02Of, g_spec_l01Of, t_spec_l01Of, Option.bind_some]
    have ht := through_ok (d := d) (by omega) (by omega) (by decide) (by decide) bq (by decide)
    rw [show d % 8 = d by omega] at ht
    rw [ht, Option.bind_some, hal, Option.bind_some]
    simp only [pointFrom]
    cases brings p l q d
    · exact IH acc (by omega)
    · simp only [cond_true, List.length_singleton, k1, k2]
      rw [← List.append_assoc]
      exact IH (acc ++ [lnN q d]) (by simp only [List.length_append, List.length_singleton]; omega)

theorem point_impl_loop : ∀ (n : Nat) (d : Int) (acc : List Ln), 0 ≤ d → d + n = 8 → acc.length ≤ 900 - n →
    w_impl_FoldPointLine_6 (m_impl_FoldPointLine_6 acc d p.1.1 p.1.2.1 p.1.2.2 p.2.1 p.2.2.1 p.2.2.2 l.1 l.2.1 l.2.2.1 l.2.2.2 q.1.1 q.1.2.1 q.1.2.2 q.2.1 q.2.2.1 q.2.2.2) = some (.inl (d_impl_FoldPointLine_6_0 (acc ++ pointFrom p l q n d)))
  | 0, d, acc, h0, h1, ha => by
    rw [wq_impl_FoldPointLine_6, u_impl_FoldPointLine_6, dec_f (by omega), cond_false]
    simp only [pointFrom, List.append_nil]; rfl
  | n + 1, d, acc, h0, h1, ha => by
    have IH := fun acc' => point_impl_loop n (d + 1) acc' (by omega) (by omega)
    have bq := okP_bd hq
    obtain ⟨y, s, e1, e2, e3⟩ := (aligned_ok hp hl hq h0 (show d < 8 by omega)).2
    have k1 : decide ((acc.length + 1) * 32 ≤ 70368744177664) = true := dec_t (by omega)
    have k2 : decide (acc.length + 1 ≤ 70368744177664) = true := dec_t (by omega)
    rw [wq_impl_FoldPointLine_6, u_impl_FoldPointLine_6, dec_t (by omega), cond_true, wrap_id (n := d + 1) (by omega) (by omega)]
    have ht := lineAt_ok (d := d) h0 (by omega) (by decide) (by decide) bq (by decide)
    have ht' : g_impl_lineAt ((q.1.1, (q.1.2.1, q.1.2.2)), (q.2.1, (q.2.2.1, q.2.2.2))) d = some (lnN q d) := ht
    have e1' : g_impl_Line_reflect (lnN q d) ((p.1.1, (p.1.2.1, p.1.2.2)), (p.2.1, (p.2.2.1, p.2.2.2))) = some y := e1
    have e2' : g_impl_Line_side (l.1, (l.2.1, (l.2.2.1, l.2.2.2))) y = some s := e2
    rw [ht', Option.bind_some, e1', Option.bind_some, e2', Option.bind_some, e3]
    simp only [pointFrom]
    cases brings p l q d
    · exact IH acc (by omega)
    · simp only [cond_true, List.length_singleton, k1, k2]
      rw [← List.append_assoc]
      exact IH (acc ++ [lnN q d]) (by simp only [List.length_append, List.length_singleton]; omega)

end

theorem pointFrom_fit {p q : Pt} {l : Ln} (hq : okP q = true) (x : Ln) (hx : x ∈ pointFrom p l q 8 0) : fitL x ∧ 0 ≤ x.1 ∧ x.1 ≤ 7 := by
  obtain ⟨e, h1, h2, rfl⟩ := pointFrom_mem p l q 8 0 x hx
  have hb := line_bd hq (show 0 ≤ e by omega) (by omega)
  have hi := bd_i64 hb (by decide) (by decide)
  exact ⟨⟨addN_can _ _, by have := hb.2.1; exact Int.le_trans this (by decide), hi.1, hi.2⟩, by show 0 ≤ e; omega, by show e ≤ 7; omega⟩

def pointN (p : Pt) (l : Ln) (q : Pt) : List Ln × Int := cond (okP p && (okL l && okP q)) (allL (pointFrom p l q 8 0)) ([], 1)

theorem spec_point (p : Pt) (l : Ln) (q : Pt) : g_spec_FoldPointLine p l q = some (pointN p l q) := by
  rw [g_spec_FoldPointLine, t_spec_FoldPointLine, spec_okL, spec_okP, spec_okP]
  unfold pointN
  simp only [Option.bind_some]
  cases hp : okP p
  · rfl
  cases hl : okL l
  · rfl
  cases hq : okP q
  · rfl
  simp only [Bool.not_true, cond_false, Bool.and_self, cond_true]
  rw [point_spec_loop hp hl hq 8 0 [] (by decide) (by decide) (by simp), List.nil_append]
  have h := specAll (pointFrom p l q 8 0) (Nat.le_trans (pointFrom_length p l q 8 0) (by decide)) (fun x hx => (pointFrom_fit hq x hx).1)
  show (g_spec_l23All (pointFrom p l q 8 0)).bind _ = _
  rw [h]; rfl

theorem impl_point (p : Pt) (l : Ln) (q : Pt) : g_impl_FoldPointLine p l q = some (pointN p l q) := by
  rw [g_impl_FoldPointLine, t_impl_FoldPointLine, impl_okL, impl_okP, impl_okP]
  unfold pointN
  simp only [Option.bind_some]
  cases hp : okP p
  · rfl
  cases hl : okL l
  · rfl
  cases hq : okP q
  · rfl
  simp only [Bool.not_true, cond_false, Bool.and_self, cond_true]
  rw [point_impl_loop hp hl hq 8 0 [] (by decide) (by decide) (by simp), List.nil_append]
  have h := results_rise (pointFrom p l q 8 0) (Nat.le_trans (pointFrom_length p l q 8 0) (by decide)) (fun x hx => (pointFrom_fit hq x hx).2) (pointFrom_rises p l q 8 0)
  show cond (decide True) ((g_impl_lineResults (pointFrom p l q 8 0)).bind _) none = _
  rw [dec_t trivial, cond_true, h]; rfl

theorem pointN_length (p : Pt) (l : Ln) (q : Pt) : (pointN p l q).1.length ≤ 1000 := by
  unfold pointN
  cases okP p && (okL l && okP q)
  · exact Nat.zero_le _
  · exact allL_length _ (Nat.le_trans (pointFrom_length p l q 8 0) (by decide))

theorem law_FoldPointLine (p : Pt) (l : Ln) (q : Pt) : g_laws_FnExactFoldPointLine p l q = some true := by
  rw [g_laws_FnExactFoldPointLine, t_laws_FnExactFoldPointLine]
  have hl := pointN_length p l q
  simp only [toLine_id, toPoint_id, spec_point, impl_point, Option.bind_some, eqLns_self _ hl, markLn_ok _ hl, heldLn_ok _ hl, Bool.not_true, cond_true, cond_false, bne_self_eq_false, decide_true]
  rw [dec_f (show ¬ (1 + 4 * ((pointN p l q).1.length : Int) < 0) by omega)]
  rfl
end Go.Proofs.YtooaomcmhgpbpaaDoor
