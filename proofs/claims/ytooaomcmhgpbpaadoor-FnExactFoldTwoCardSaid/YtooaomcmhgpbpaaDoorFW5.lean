/- The plain law on FoldTwo. No conditions. -/
import Derived.Test.YtooaomcmhgpbpaaDoorFW4
namespace Go.Proofs.YtooaomcmhgpbpaaDoor
open Go.Vai
theorem okL_bd {l : Ln} (h : okL l = true) : 0 ≤ l.1 ∧ l.1 ≤ 7 ∧ Bd 131072 10 l.2 ∧ l.2.can := by
  simp only [okL, Bool.and_eq_true, decide_eq_true_eq] at h
  exact ⟨h.1.1, h.1.2, okN_bd h.2, okN_can h.2⟩

theorem eqLn (a b : Ln) : ((a.1 == b.1) && (((a.2.1 == b.2.1) && ((a.2.2.1 == b.2.2.1) && ((a.2.2.2 == b.2.2.2) && true))) && true)) = decide (a = b) := by
  obtain ⟨a1, a2, a3, a4⟩ := a
  obtain ⟨b1, b2, b3, b4⟩ := b
  rw [Bool.eq_iff_iff]
  simp only [Bool.and_eq_true, beq_iff_eq, decide_eq_true_eq, Prod.mk.injEq, and_true]

/-- The lines of one direction that align both. -/
def twoAt (p : Pt) (l : Ln) (q : Pt) (m : Ln) (d : Int) : List Ln :=
  cond (isZ (byN d l.1))
    (cond (isZ (restN p l)) (cond (isZ (byN d m.1)) [] [alN d q m]) [])
    (cond (isZ (byN d m.1)) (cond (isZ (restN q m)) [alN d p l] []) (cond (decide (alN d p l = alN d q m)) [alN d p l] []))

def twoFrom (p : Pt) (l : Ln) (q : Pt) (m : Ln) : Nat → Int → List Ln
  | 0, _ => []
  | n + 1, d => twoAt p l q m d ++ twoFrom p l q m n (d + 1)

theorem twoAt_cases (p : Pt) (l : Ln) (q : Pt) (m : Ln) (d : Int) : twoAt p l q m d = [] ∨ ∃ x, twoAt p l q m d = [x] ∧ ((x = alN d p l ∧ isZ (byN d l.1) = false) ∨ (x = alN d q m ∧ isZ (byN d m.1) = false)) := by
  unfold twoAt
  cases h1 : isZ (byN d l.1)
  · cases h2 : isZ (byN d m.1)
    · simp only [cond_false]
      cases decide (alN d p l = alN d q m)
      · exact .inl rfl
      · exact .inr ⟨_, rfl, .inl ⟨rfl, trivial⟩⟩
    · simp only [cond_false, cond_true]
      cases isZ (restN q m)
      · exact .inl rfl
      · exact .inr ⟨_, rfl, .inl ⟨rfl, trivial⟩⟩
  · simp only [cond_true]
    cases isZ (restN p l)
    · exact .inl rfl
    · cases h2 : isZ (byN d m.1)
      · exact .inr ⟨_, rfl, .inr ⟨rfl, rfl⟩⟩
      · exact .inl rfl

theorem twoFrom_mem (p : Pt) (l : Ln) (q : Pt) (m : Ln) : ∀ (n : Nat) (d : Int) (x : Ln), x ∈ twoFrom p l q m n d → ∃ e, d ≤ e ∧ e < d + n ∧ x.1 = e ∧ ((x = alN e p l ∧ isZ (byN e l.1) = false) ∨ (x = alN e q m ∧ isZ (byN e m.1) = false))
  | 0, d, x, h => (List.not_mem_nil h).elim
  | n + 1, d, x, h => by
    rcases List.mem_append.1 h with h | h
    · rcases twoAt_cases p l q m d with e | ⟨y, e, hy⟩
      · rw [e] at h; cases h
      · rw [e] at h
        simp only [List.mem_cons, List.not_mem_nil, or_false] at h
        subst h
        refine ⟨d, Int.le_refl _, by omega, ?_, hy⟩
        rcases hy with ⟨rfl, _⟩ | ⟨rfl, _⟩ <;> rfl
    · obtain ⟨e, h1, h2, h3⟩ := twoFrom_mem p l q m n (d + 1) x h
      exact ⟨e, by omega, by omega, h3⟩

theorem twoFrom_length (p : Pt) (l : Ln) (q : Pt) (m : Ln) : ∀ (n : Nat) (d : Int), (twoFrom p l q m n d).length ≤ n
  | 0, d => Nat.le_refl _
  | n + 1, d => by
    have := twoFrom_length p l q m n (d + 1)
    rcases twoAt_cases p l q m d with e | ⟨y, e, _⟩
    · simp only [twoFrom, e, List.nil_append]; omega
    · simp only [twoFrom, e, List.length_append, List.length_singleton]; omega

theorem rises_cons {x : Ln} : ∀ {l : List Ln}, (∀ y, y ∈ l → x.1 < y.1) → rises l → rises (x :: l)
  | [], _, _ => trivial
  | y :: r, h, hr => ⟨h y (by simp), hr⟩

theorem twoFrom_rises (p : Pt) (l : Ln) (q : Pt) (m : Ln) : ∀ (n : Nat) (d : Int), rises (twoFrom p l q m n d)
  | 0, d => trivial
  | n + 1, d => by
    have ih := twoFrom_rises p l q m n (d + 1)
    rcases twoAt_cases p l q m d with e | ⟨y, e, hy⟩
    · simp only [twoFrom, e, List.nil_append]; exact ih
    · simp only [twoFrom, e, List.singleton_append]
      refine rises_cons (fun z hz => ?_) ih
      obtain ⟨e, h1, _, h3, _⟩ := twoFrom_mem p l q m n (d + 1) z hz
      have : y.1 = d := by rcases hy with ⟨rfl, _⟩ | ⟨rfl, _⟩ <;> rfl
      omega

section
variable {p q : Pt} {l m : Ln} (hp : okP p = true) (hl : okL l = true) (hq : okP q = true) (hm : okL m = true)
include hp hl hq hm

theorem two_spec_round {d : Int} (h0 : 0 ≤ d) (h1 : d < 8) (acc : List Ln) (hacc : acc.length ≤ 1000) {R : Type} (nx : s_spec_FoldTwo_6.T → Option R) (hx : exH R x_spec_FoldTwo_6) :
    u_spec_FoldTwo_6 nx hx acc d p.1.1 p.1.2.1 p.1.2.2 p.2.1 p.2.2.1 p.2.2.2 l.1 l.2.1 l.2.2.1 l.2.2.2 q.1.1 q.1.2.1 q.1.2.2 q.2.1 q.2.2.1 q.2.2.2 m.1 m.2.1 m.2.2.1 m.2.2.2 =
      nx (m_spec_FoldTwo_6 (acc ++ twoAt p l q m d) (d + 1) p.1.1 p.1.2.1 p.1.2.2 p.2.1 p.2.2.1 p.2.2.2 l.1 l.2.1 l.2.2.1 l.2.2.2 q.1.1 q.1.2.1 q.1.2.2 q.2.1 q.2.2.1 q.2.2.2 m.1 m.2.1 m.2.2.1 m.2.2.2) := by
  obtain ⟨l0, l1, lb, _⟩ := okL_bd hl
  obtain ⟨m0, m1, mb, _⟩ := okL_bd hm
  have bp := okP_bd hp
  have bq := okP_bd hq
  have mv1 := (move_ok h0 h1 l0 l1 lb bp).1
  have mv2 := (move_ok h0 h1 m0 m1 mb bq).1
  have k1 : decide ((acc.length + 1) * 32 ≤ 70368744177664) = true := dec_t (by omega)
  have k2 : decide (acc.length + 1 ≤ 70368744177664) = true := dec_t (by omega)
  rw [u_spec_FoldTwo_6, dec_t h1, cond_true, wrap_id (n := d + 1) (by omega) (by omega)]
  simp only [g_spec_l02LineOf, t_spec_l02LineOf, g_spec_l02Of, t_spec_l02Of, g_spec_l01Of, t_spec_l01Of, Option.bind_some]
  rw [mv1, Option.bind_some, mv2, Option.bind_some]
  unfold moveN twoAt
  cases z1 : isZ (byN d l.1)
  · cases z2 : isZ (byN d m.1)
    · have b1 := alN_bd h0 h1 l0 l1 lb bp z1
      have b2 := alN_bd h0 h1 m0 m1 mb bq z2
      have sb := (sub_ok b1 b2 (by decide) (by decide) (by decide) (by decide) (by decide)).1
      have hz := sub_zero_iff (x := (alN d p l).2) (y := (alN d q m).2) (addN_can _ _) (addN_can _ _)
      have hz' : decide ((subN (alN d p l).2 (alN d q m).2).1 = 0 ∧ (subN (alN d p l).2 (alN d q m).2).2.1 = 0) = decide (alN d p l = alN d q m) := by
        rw [Bool.eq_iff_iff, decide_eq_true_eq, decide_eq_true_eq, hz]
        exact ⟨fun h => Prod.ext rfl h, fun h => by rw [h]⟩
      simp only [cond_false, show ((1 : Int) == 1) = true from rfl, show ((1 : Int) == 2) = false from rfl, cond_true, sb, Option.bind_some, zero_ok, hz']
      cases decide (alN d p l = alN d q m)
      · simp only [cond_false, List.append_nil]
      · simp only [cond_true, List.length_singleton, k1, k2]
    · cases isZ (restN q m)
      · simp only [cond_false, cond_true, show ((1 : Int) == 1) = true from rfl, show ((0 : Int) == 2) = false from rfl, show ((1 : Int) == 2) = false from rfl, show ((0 : Int) == 1) = false from rfl, List.append_nil]
      · simp only [cond_false, cond_true, show ((1 : Int) == 1) = true from rfl, show ((2 : Int) == 2) = true from rfl, List.length_singleton, k1, k2]
  · cases isZ (restN p l)
    · cases z2 : isZ (byN d m.1) <;> cases isZ (restN q m) <;>
        simp only [cond_false, cond_true, show ((0 : Int) == 1) = false from rfl, show ((0 : Int) == 2) = false from rfl, List.append_nil]
    · cases z2 : isZ (byN d m.1)
      · simp only [cond_false, cond_true, show ((2 : Int) == 1) = false from rfl, show ((2 : Int) == 2) = true from rfl, show ((1 : Int) == 1) = true from rfl, List.length_singleton, k1, k2]
      · cases isZ (restN q m) <;>
          simp only [cond_false, cond_true, show ((2 : Int) == 1) = false from rfl, show ((0 : Int) == 1) = false from rfl, show ((2 : Int) == 2) = true from rfl, List.append_nil]

theorem two_impl_round {d : Int} (h0 : 0 ≤ d) (h1 : d < 8) (acc : List Ln) (hacc : acc.length ≤ 1000) {R : Type} (nx : s_impl_FoldTwo_6.T → Option R) (hx : exH R x_impl_FoldTwo_6) :
    u_impl_FoldTwo_6 nx hx acc d p.1.1 p.1.2.1 p.1.2.2 p.2.1 p.2.2.1 p.2.2.2 l.1 l.2.1 l.2.2.1 l.2.2.2 q.1.1 q.1.2.1 q.1.2.2 q.2.1 q.2.2.1 q.2.2.2 m.1 m.2.1 m.2.2.1 m.2.2.2 =
      nx (m_impl_FoldTwo_6 (acc ++ twoAt p l q m d) (d + 1) p.1.1 p.1.2.1 p.1.2.2 p.2.1 p.2.2.1 p.2.2.2 l.1 l.2.1 l.2.2.1 l.2.2.2 q.1.1 q.1.2.1 q.1.2.2 q.2.1 q.2.2.1 q.2.2.2 m.1 m.2.1 m.2.2.1 m.2.2.2) := by
  obtain ⟨l0, l1, lb, _⟩ := okL_bd hl
  obtain ⟨m0, m1, mb, _⟩ := okL_bd hm
  have bp := okP_bd hp
  have bq := okP_bd hq
  have mv1 := (move_ok h0 h1 l0 l1 lb bp).2
  have mv2 := (move_ok h0 h1 m0 m1 mb bq).2
  have k1 : decide ((acc.length + 1) * 32 ≤ 70368744177664) = true := dec_t (by omega)
  have k2 : decide (acc.length + 1 ≤ 70368744177664) = true := dec_t (by omega)
  rw [u_impl_FoldTwo_6, dec_t h1, cond_true, wrap_id (n := d + 1) (by omega) (by omega)]
  rw [mv1, Option.bind_some, mv2, Option.bind_some]
  unfold moveN twoAt
  cases z1 : isZ (byN d l.1)
  · cases z2 : isZ (byN d m.1)
    · simp only [cond_false, show ((1 : Int) == 0) = false from rfl, show ((1 : Int) == 2) = false from rfl, show ((1 : Int) == 3) = false from rfl, eqLn]
      cases decide (alN d p l = alN d q m)
      · simp only [cond_false, List.append_nil]
      · simp only [cond_true, List.length_singleton, k1, k2]
    · cases isZ (restN q m)
      · simp only [cond_false, cond_true, show ((1 : Int) == 0) = false from rfl, show ((0 : Int) == 0) = true from rfl, List.append_nil]
      · simp only [cond_false, cond_true, show ((1 : Int) == 0) = false from rfl, show ((2 : Int) == 0) = false from rfl, show ((1 : Int) == 2) = false from rfl, show ((1 : Int) == 3) = false from rfl,
          show ((2 : Int) == 3) = false from rfl, show ((2 : Int) == 2) = true from rfl, List.length_singleton, k1, k2]
  · cases isZ (restN p l)
    · cases z2 : isZ (byN d m.1) <;> cases isZ (restN q m) <;>
        simp only [cond_false, cond_true, show ((0 : Int) == 0) = true from rfl, List.append_nil]
    · cases z2 : isZ (byN d m.1)
      · simp only [cond_false, cond_true, show ((2 : Int) == 0) = false from rfl, show ((1 : Int) == 0) = false from rfl, show ((2 : Int) == 2) = true from rfl, show ((1 : Int) == 2) = false from rfl,
          show ((2 : Int) == 3) = false from rfl, show ((1 : Int) == 3) = false from rfl, List.length_singleton, k1, k2]
      · cases isZ (restN q m)
        · simp only [cond_false, cond_true, show ((2 : Int) == 0) = false from rfl, show ((0 : Int) == 0) = true from rfl, List.append_nil]
        · simp only [cond_false, cond_true, show ((2 : Int) == 0) = false from rfl, show ((2 : Int) == 2) = true from rfl, List.append_nil]

theorem two_spec_loop : ∀ (n : Nat) (d : Int) (acc : List Ln), 0 ≤ d → d + n = 8 → acc.length ≤ 900 - n →
    w_spec_FoldTwo_6 (m_spec_FoldTwo_6 acc d p.1.1 p.1.2.1 p.1.2.2 p.2.1 p.2.2.1 p.2.2.2 l.1 l.2.1 l.2.2.1 l.2.2.2 q.1.1 q.1.2.1 q.1.2.2 q.2.1 q.2.2.1 q.2.2.2 m.1 m.2.1 m.2.2.1 m.2.2.2) = some (.inl (d_spec_FoldTwo_6_0 (acc ++ twoFrom p l q m n d)))
  | 0, d, acc, h0, h1, ha => by
    rw [wq_spec_FoldTwo_6, u_spec_FoldTwo_6, dec_f (by omega), cond_false]
    simp only [twoFrom, List.append_nil]; rfl
  | n + 1, d, acc, h0, h1, ha => by
    rw [wq_spec_FoldTwo_6, two_spec_round hp hl hq hm h0 (by omega) acc (by omega)]
    have hlen : (twoAt p l q m d).length ≤ 1 := by
      rcases twoAt_cases p l q m d with e | ⟨y, e, _⟩ <;> rw [e] <;> simp
    refine (two_spec_loop n (d + 1) (acc ++ twoAt p l q m d) (by omega) (by omega) (by simp only [List.length_append]; omega)).trans ?_
    rw [twoFrom, List.append_assoc]

theorem two_impl_loop : ∀ (n : Nat) (d : Int) (acc : List Ln), 0 ≤ d → d + n = 8 → acc.length ≤ 900 - n →
    w_impl_FoldTwo_6 (m_impl_FoldTwo_6 acc d p.1.1 p.1.2.1 p.1.2.2 p.2.1 p.2.2.1 p.2.2.2 l.1 l.2.1 l.2.2.1 l.2.2.2 q.1.1 q.1.2.1 q.1.2.2 q.2.1 q.2.2.1 q.2.2.2 m.1 m.2.1 m.2.2.1 m.2.2.2) = some (.inr (.inl (d_impl_FoldTwo_6_1 (acc ++ twoFrom p l q m n d))))
  | 0, d, acc, h0, h1, ha => by
    rw [wq_impl_FoldTwo_6, u_impl_FoldTwo_6, dec_f (by omega), cond_false]
    simp only [twoFrom, List.append_nil]; rfl
  | n + 1, d, acc, h0, h1, ha => by
    rw [wq_impl_FoldTwo_6, two_impl_round hp hl hq hm h0 (by omega) acc (by omega)]
    have hlen : (twoAt p l q m d).length ≤ 1 := by
      rcases twoAt_cases p l q m d with e | ⟨y, e, _⟩ <;> rw [e] <;> simp
    refine (two_impl_loop n (d + 1) (acc ++ twoAt p l q m d) (by omega) (by omega) (by simp only [List.length_append]; omega)).trans ?_
    rw [twoFrom, List.append_assoc]
end

def twoN (p : Pt) (l : Ln) (q : Pt) (m : Ln) : List Ln × Int := cond (okP p && (okL l && (okP q && okL m))) (allL (twoFrom p l q m 8 0)) ([], 1)

theorem twoFrom_fit {p q : Pt} {l m : Ln} (hp : okP p = true) (hl : okL l = true) (hq : okP q = true) (hm : okL m = true) (x : Ln) (hx : x ∈ twoFrom p l q m 8 0) : fitL x ∧ 0 ≤ x.1 ∧ x.1 ≤ 7 := by
  obtain ⟨l0, l1, lb, _⟩ := okL_bd hl
  obtain ⟨m0, m1, mb, _⟩ := okL_bd hm
  obtain ⟨e, h1, h2, h3, h4⟩ := twoFrom_mem p l q m 8 0 x hx
  refine ⟨?_, by omega, by omega⟩
  rcases h4 with ⟨rfl, hz⟩ | ⟨rfl, hz⟩
  · have hb := alN_bd (by omega) (by omega) l0 l1 lb (okP_bd hp) hz
    have hi := bd_i64 hb (by decide) (by decide)
    exact ⟨addN_can _ _, by have := hb.2.1; exact Int.le_trans this (by decide), hi.1, hi.2⟩
  · have hb := alN_bd (by omega) (by omega) m0 m1 mb (okP_bd hq) hz
    have hi := bd_i64 hb (by decide) (by decide)
    exact ⟨addN_can _ _, by have := hb.2.1; exact Int.le_trans this (by decide), hi.1, hi.2⟩

theorem spec_two (p : Pt) (l : Ln) (q : Pt) (m : Ln) : g_spec_FoldTwo p l q m = some (twoN p l q m) := by
  rw [g_spec_FoldTwo, t_spec_FoldTwo, spec_okL, spec_okL, spec_okP, spec_okP]
  unfold twoN
  simp only [Option.bind_some]
  cases hp : okP p
  · rfl
  cases hl : okL l
  · rfl
  cases hq : okP q
  · rfl
  cases hm : okL m
  · rfl
  simp only [Bool.not_true, cond_false, Bool.and_self, cond_true]
  rw [two_spec_loop hp hl hq hm 8 0 [] (by decide) (by decide) (by simp), List.nil_append]
  have h := specAll (twoFrom p l q m 8 0) (Nat.le_trans (twoFrom_length p l q m 8 0) (by decide)) (fun x hx => (twoFrom_fit hp hl hq hm x hx).1)
  show (g_spec_l23All (twoFrom p l q m 8 0)).bind _ = _
  rw [h]; rfl

theorem impl_two (p : Pt) (l : Ln) (q : Pt) (m : Ln) : g_impl_FoldTwo p l q m = some (twoN p l q m) := by
  rw [g_impl_FoldTwo, t_impl_FoldTwo, impl_okL, impl_okL, impl_okP, impl_okP]
  unfold twoN
  simp only [Option.bind_some]
  cases hp : okP p
  · rfl
  cases hl : okL l
  · rfl
  cases hq : okP q
  · rfl
  cases hm : okL m
  · rfl
  simp only [Bool.not_true, cond_false, Bool.and_self, cond_true]
  rw [two_impl_loop hp hl hq hm 8 0 [] (by decide) (by decide) (by simp), List.nil_append]
  have h := results_rise (twoFrom p l q m 8 0) (Nat.le_trans (twoFrom_length p l q m 8 0) (by decide)) (fun x hx => (twoFrom_fit hp hl hq hm x hx).2) (twoFrom_rises p l q m 8 0)
  show cond (decide True) ((g_impl_lineResults (twoFrom p l q m 8 0)).bind _) none = _
  rw [dec_t trivial, cond_true, h]; rfl

theorem twoN_length (p : Pt) (l : Ln) (q : Pt) (m : Ln) : (twoN p l q m).1.length ≤ 1000 := by
  unfold twoN
  cases okP p && (okL l && (okP q && okL m))
  · exact Nat.zero_le _
  · exact allL_length _ (Nat.le_trans (twoFrom_length p l q m 8 0) (by decide))

theorem law_FoldTwo (p : Pt) (l : Ln) (q : Pt) (m : Ln) : g_laws_FnExactFoldTwo p l q m = some true := by
  rw [g_laws_FnExactFoldTwo, t_laws_FnExactFoldTwo]
  have hl := twoN_length p l q m
  simp only [toLine_id, toPoint_id, spec_two, impl_two, Option.bind_some, eqLns_self _ hl, markLn_ok _ hl, heldLn_ok _ hl, Bool.not_true, cond_true, cond_false, bne_self_eq_false, decide_true]
  rw [dec_f (show ¬ (1 + 4 * ((twoN p l q m).1.length : Int) < 0) by omega)]
  rfl
end Go.Proofs.YtooaomcmhgpbpaaDoor
