/- Reductions have one end. No conditions. -/
import Derived.Test.YtjfgddmngnkfdaaST4
namespace Go.Proofs.Ytjfgddmngnkfdaa
open Go.Vai
/-! reductions of a strip lead to one end -/
namespace Conf

abbrev Pt := Bool × Int

inductive T : List Pt → List Pt → Prop
  | crimp {k a k1 b k2 c q} : b ≤ a → b ≤ c → k1 ≠ k2 → T ((k, a) :: (k1, b) :: (k2, c) :: q) ((k, a - b + c) :: q)
  | last {k a k1 b} : b ≤ a → T [(k, a), (k1, b)] [(k, a)]
  | cons {x s t} : T s t → T (x :: s) (x :: t)

inductive St : List Pt → List Pt → Prop
  | first {k a k1 b q} : a ≤ b → St ((k, a) :: (k1, b) :: q) ((k, b) :: q)
  | inn {s t} : T s t → St s t

inductive R : List Pt → List Pt → Prop
  | refl {s} : R s s
  | step {s t u} : St s t → R t u → R s u

theorem R.one {s t} (h : St s t) : R s t := .step h .refl
theorem R.trans {s t u} (h : R s t) (h' : R t u) : R s u := by
  induction h with
  | refl => exact h'
  | step h _ ih => exact .step h (ih h')

/-- Steps within, at most one. -/
inductive T01 : List Pt → List Pt → Prop
  | refl {s} : T01 s s
  | one {s t} : T s t → T01 s t

theorem T01.cons {x s t} (h : T01 s t) : T01 (x :: s) (x :: t) := by
  cases h with
  | refl => exact .refl
  | one h => exact .one (.cons h)
theorem T01.r {s t} (h : T01 s t) : R s t := by
  cases h with
  | refl => exact .refl
  | one h => exact .one (.inn h)

theorem T.head {k a s t} (h : T ((k, a) :: s) t) : ∃ a' t', t = (k, a') :: t' ∧ a ≤ a' ∧ ∀ k', T ((k', a) :: s) ((k', a') :: t') := by
  cases h with
  | crimp h1 h2 h3 => exact ⟨_, _, rfl, by omega, fun k' => .crimp h1 h2 h3⟩
  | last h => exact ⟨_, _, rfl, by omega, fun k' => .last h⟩
  | cons h => exact ⟨_, _, rfl, by omega, fun k' => .cons h⟩

theorem T.none1 {x t} (h : T [x] t) : False := by
  cases h with
  | cons h => cases h

theorem bool_third {k1 k2 k3 : Bool} (h : k1 ≠ k2) (h' : k2 ≠ k3) : k1 = k3 := by
  cases k1 <;> cases k2 <;> cases k3 <;> simp_all

theorem T.join : ∀ {s t1 t2}, T s t1 → T s t2 → ∃ u, T01 t1 u ∧ T01 t2 u := by
  have side : ∀ {k a k1 b k2 c q t2}, b ≤ a → b ≤ c → k1 ≠ k2 → T ((k1, b) :: (k2, c) :: q) t2 → ∃ u, T01 ((k, a - b + c) :: q) u ∧ T01 ((k, a) :: t2) u := by
    intro k a k1 b k2 c q t2 h1 h2 h3 h
    cases h with
    | @crimp _ _ _ _ k3 d q' g1 g2 g3 =>
      have hb : b = c := by omega
      subst hb
      have hk := bool_third h3 g3
      subst hk
      refine ⟨_, .refl, ?_⟩
      have e1 : a - b + b = a := by omega
      have e2 : b - b + d = d := by omega
      rw [e1, e2]; exact .refl
    | last g =>
      have hb : b = c := by omega
      subst hb
      have e1 : a - b + b = a := by omega
      rw [e1]
      exact ⟨[(k, a)], .refl, .one (.last h1)⟩
    | cons g =>
      cases g with
      | @crimp _ _ k3 d k4 e q' g1 g2 g3 =>
        refine ⟨(k, a - b + c - d + e) :: q', .one (.crimp (by omega) g2 g3), ?_⟩
        have e1 : a - b + c - d + e = a - b + (c - d + e) := by omega
        rw [e1]
        exact .one (.crimp h1 (by omega) h3)
      | last g => exact ⟨[(k, a - b + c)], .one (.last (by omega)), .one (.crimp h1 h2 h3)⟩
      | cons g => exact ⟨_, .one (.cons g), .one (.crimp h1 h2 h3)⟩
  intro s t1 t2 h1
  induction h1 generalizing t2 with
  | crimp g1 g2 g3 =>
    intro h2
    cases h2 with
    | crimp _ _ _ => exact ⟨_, .refl, .refl⟩
    | cons h => exact side g1 g2 g3 h
  | last g =>
    intro h2
    cases h2 with
    | last _ => exact ⟨_, .refl, .refl⟩
    | cons h => exact (T.none1 h).elim
  | cons h ih =>
    intro h2
    cases h2 with
    | crimp g1 g2 g3 =>
      obtain ⟨u, a, b⟩ := side g1 g2 g3 h
      exact ⟨u, b, a⟩
    | last g => exact (T.none1 h).elim
    | cons h' =>
      obtain ⟨u, a, b⟩ := ih h'
      exact ⟨_, a.cons, b.cons⟩

theorem St.side {k a k1 b q t2} (h : a ≤ b) (h2 : T ((k, a) :: (k1, b) :: q) t2) : ∃ u, R ((k, b) :: q) u ∧ R t2 u := by
  cases h2 with
  | @crimp _ _ _ _ k2 c q' g1 g2 g3 =>
    have : a = b := by omega
    subst this
    have e1 : a - a + c = c := by omega
    rw [e1]
    exact ⟨_, .one (.first g2), .refl⟩
  | last g =>
    have : a = b := by omega
    subst this
    exact ⟨_, .refl, .refl⟩
  | cons g =>
    obtain ⟨b', t', rfl, hb, hT⟩ := g.head
    exact ⟨(k, b') :: t', .one (.inn (hT k)), .one (.first (by omega))⟩

theorem St.join {s t1 t2} (h1 : St s t1) (h2 : St s t2) : ∃ u, R t1 u ∧ R t2 u := by
  cases h1 with
  | first g =>
    cases h2 with
    | first _ => exact ⟨_, .refl, .refl⟩
    | inn h => exact St.side g h
  | inn h =>
    cases h2 with
    | first g =>
      obtain ⟨u, a, b⟩ := St.side g h
      exact ⟨u, b, a⟩
    | inn h' =>
      obtain ⟨u, a, b⟩ := T.join h h'
      exact ⟨u, a.r, b.r⟩

theorem T.less {s t} (h : T s t) : t.length < s.length := by
  induction h with
  | crimp _ _ _ => simp only [List.length_cons]; omega
  | last _ => simp only [List.length_cons, List.length_nil]; omega
  | cons _ ih => simp only [List.length_cons]; omega

theorem St.less {s t} (h : St s t) : t.length < s.length := by
  cases h with
  | first _ => simp only [List.length_cons]; omega
  | inn h => exact h.less

def Irr (s : List Pt) : Prop := ∀ t, ¬ St s t

theorem R.irr {s t} (h : R s t) (hs : Irr s) : t = s := by
  cases h with
  | refl => rfl
  | step h _ => exact (hs _ h).elim

theorem exists_nf : ∀ (n : Nat) (s : List Pt), s.length ≤ n → ∃ t, R s t ∧ Irr t
  | 0, s, h => ⟨s, .refl, fun t ht => by have := ht.less; omega⟩
  | n + 1, s, h => by
    by_cases hs : Irr s
    · exact ⟨s, .refl, hs⟩
    · simp only [Irr, Classical.not_forall, Classical.not_not] at hs
      obtain ⟨t, ht⟩ := hs
      obtain ⟨u, hu, hi⟩ := exists_nf n t (by have := ht.less; omega)
      exact ⟨u, .step ht hu, hi⟩

/-- One end. -/
theorem unique : ∀ (n : Nat) (s : List Pt), s.length ≤ n → ∀ t1 t2, R s t1 → R s t2 → Irr t1 → Irr t2 → t1 = t2 := by
  intro n
  induction n with
  | zero =>
    intro s h t1 t2 h1 h2 i1 i2
    have hs : Irr s := fun t ht => by have := ht.less; omega
    rw [h1.irr hs, h2.irr hs]
  | succ n ih =>
    intro s h t1 t2 h1 h2 i1 i2
    cases h1 with
    | refl => exact (h2.irr i1).symm
    | step a1 b1 =>
      cases h2 with
      | refl => exact (i2 _ a1).elim
      | step a2 b2 =>
        obtain ⟨u, c1, c2⟩ := St.join a1 a2
        obtain ⟨v, hv, iv⟩ := exists_nf _ u (Nat.le_refl _)
        have e1 := ih _ (by have := a1.less; omega) t1 v b1 (c1.trans hv) i1 iv
        have e2 := ih _ (by have := a2.less; omega) t2 v b2 (c2.trans hv) i2 iv
        rw [e1, e2]

end Conf
theorem idx_at (l : List Int) {i : Int} (h0 : 0 ≤ i) (h1 : i < l.length) : idx l i = some (l.getD i.toNat 0) := by
  have := idx_getD l i.toNat (by omega)
  rwa [show ((i.toNat : Nat) : Int) = i by omega] at this

/-- When a step is possible. -/
theorem can_iff {a : Str} (h : Shp a) (x : Sp) : canB a x = true ↔ 2 ≤ a.1.length ∧
    ((x.1 = 2 ∧ x.2 = 0 ∧ a.1.getD 0 0 ≤ a.1.getD 1 0) ∨ (x.1 = 3 ∧ x.2 = (a.1.length : Int) - 1 ∧ a.1.getD (a.1.length - 1) 0 ≤ a.1.getD (a.1.length - 2) 0) ∨
     (x.1 = 1 ∧ 1 ≤ x.2 ∧ x.2 ≤ (a.1.length : Int) - 2 ∧ a.1.getD x.2.toNat 0 ≤ a.1.getD (x.2.toNat - 1) 0 ∧ a.1.getD x.2.toNat 0 ≤ a.1.getD (x.2.toNat + 1) 0 ∧ a.2.getD (x.2.toNat - 1) 0 ≠ a.2.getD x.2.toNat 0)) := by
  obtain ⟨h1, h2, h3⟩ := id h
  have hk := can_ok h x
  rw [g_spec_l25Can, t_spec_l25Can] at hk
  by_cases hn : (a.1.length : Int) < 2
  · rw [decide_eq_true hn, cond_true, Option.some.injEq] at hk
    rw [← hk]
    exact ⟨fun h => (by cases h), fun h => by omega⟩
  rw [decide_eq_false hn, cond_false, wrap_id (n := (a.1.length : Int) - 1) (by omega) (by omega), wrap_id (n := (a.1.length : Int) - 2) (by omega) (by omega)] at hk
  have hn2 : 2 ≤ a.1.length := by omega
  by_cases e2 : x.1 = 2
  · rw [beq_iff_eq.2 e2, cond_true] at hk
    by_cases e0 : x.2 = 0
    · rw [beq_iff_eq.2 e0, cond_true, idx_at a.1 (i := 0) (by omega) (by omega), idx_at a.1 (i := 1) (by omega) (by omega)] at hk
      simp only [Option.bind_some, Option.some.injEq] at hk
      rw [← hk, decide_eq_true_iff]
      exact ⟨fun h => ⟨hn2, .inl ⟨e2, e0, h⟩⟩, fun h => by
        rcases h.2 with ⟨_, _, h⟩ | ⟨e, _⟩ | ⟨e, _⟩
        · exact h
        · omega
        · omega⟩
    · rw [beq_eq_false_iff_ne.2 e0, cond_false, Option.some.injEq] at hk
      rw [← hk]
      exact ⟨fun h => (by cases h), fun h => by
        rcases h.2 with ⟨_, e, _⟩ | ⟨e, _⟩ | ⟨e, _⟩ <;> omega⟩
  rw [beq_eq_false_iff_ne.2 e2, cond_false] at hk
  by_cases e3 : x.1 = 3
  · rw [beq_iff_eq.2 e3, cond_true] at hk
    by_cases e0 : x.2 = (a.1.length : Int) - 1
    · rw [beq_iff_eq.2 e0, cond_true, idx_at a.1 (i := (a.1.length : Int) - 1) (by omega) (by omega), idx_at a.1 (i := (a.1.length : Int) - 2) (by omega) (by omega),
        show ((a.1.length : Int) - 1).toNat = a.1.length - 1 by omega, show ((a.1.length : Int) - 2).toNat = a.1.length - 2 by omega] at hk
      simp only [Option.bind_some, Option.some.injEq] at hk
      rw [← hk, decide_eq_true_iff]
      exact ⟨fun h => ⟨hn2, .inr (.inl ⟨e3, e0, h⟩)⟩, fun h => by
        rcases h.2 with ⟨e, _⟩ | ⟨_, _, h⟩ | ⟨e, _⟩
        · omega
        · exact h
        · omega⟩
    · rw [beq_eq_false_iff_ne.2 e0, cond_false, Option.some.injEq] at hk
      rw [← hk]
      exact ⟨fun h => (by cases h), fun h => by
        rcases h.2 with ⟨e, _⟩ | ⟨_, e, _⟩ | ⟨e, _⟩
        · omega
        · exact absurd e e0
        · omega⟩
  rw [beq_eq_false_iff_ne.2 e3, cond_false] at hk
  by_cases e1 : x.1 = 1
  · rw [beq_iff_eq.2 e1, cond_true, hwS, Option.bind_some] at hk
    by_cases hw : 1 ≤ x.2 ∧ x.2 ≤ (a.1.length : Int) - 2
    · obtain ⟨w1, w2⟩ := hw
      rw [decide_eq_true (show x.2 ≥ 1 from w1), decide_eq_true w2, Bool.and_self, cond_true, wrap_id (n := x.2 - 1) (by omega) (by omega), wrap_id (n := x.2 + 1) (by omega) (by omega),
        idx_at a.1 (i := x.2) (by omega) (by omega), idx_at a.1 (i := x.2 - 1) (by omega) (by omega), idx_at a.1 (i := x.2 + 1) (by omega) (by omega),
        idx_at a.2 (i := x.2 - 1) (by omega) (by omega), idx_at a.2 (i := x.2) (by omega) (by omega), show (x.2 - 1).toNat = x.2.toNat - 1 by omega, show (x.2 + 1).toNat = x.2.toNat + 1 by omega] at hk
      simp only [Option.bind_some] at hk
      have key : canB a x = true ↔ (a.1.getD x.2.toNat 0 ≤ a.1.getD (x.2.toNat - 1) 0 ∧ a.1.getD x.2.toNat 0 ≤ a.1.getD (x.2.toNat + 1) 0 ∧ a.2.getD (x.2.toNat - 1) 0 ≠ a.2.getD x.2.toNat 0) := by
        by_cases c1 : a.1.getD x.2.toNat 0 ≤ a.1.getD (x.2.toNat - 1) 0
        · rw [decide_eq_true c1, cond_true] at hk
          by_cases c2 : a.1.getD x.2.toNat 0 ≤ a.1.getD (x.2.toNat + 1) 0
          · rw [decide_eq_true c2, cond_true, Option.some.injEq] at hk
            rw [← hk, bne_iff_ne]
            exact ⟨fun h => ⟨c1, c2, h⟩, fun h => h.2.2⟩
          · rw [decide_eq_false c2, cond_false, Option.some.injEq] at hk
            rw [← hk]
            exact ⟨fun h => (by cases h), fun h => absurd h.2.1 c2⟩
        · rw [decide_eq_false c1, cond_false, Option.some.injEq] at hk
          rw [← hk]
          exact ⟨fun h => (by cases h), fun h => absurd h.1 c1⟩
      rw [key]
      exact ⟨fun h => ⟨hn2, .inr (.inr ⟨e1, w1, w2, h⟩)⟩, fun h => by
        rcases h.2 with ⟨e, _⟩ | ⟨e, _⟩ | ⟨_, _, _, h⟩
        · omega
        · omega
        · exact h⟩
    · have hf : (decide (x.2 ≥ 1) && decide (x.2 ≤ (a.1.length : Int) - 2)) = false := by
        cases hb : (decide (x.2 ≥ 1) && decide (x.2 ≤ (a.1.length : Int) - 2)) with
        | false => rfl
        | true =>
          simp only [Bool.and_eq_true, decide_eq_true_eq] at hb
          exact absurd hb hw
      rw [hf, cond_false, Option.some.injEq] at hk
      rw [← hk]
      exact ⟨fun h => (by cases h), fun h => by
        rcases h.2 with ⟨e, _⟩ | ⟨e, _⟩ | ⟨_, e1, e2, _⟩
        · omega
        · omega
        · exact absurd ⟨e1, e2⟩ hw⟩
  · rw [beq_eq_false_iff_ne.2 e1, cond_false, Option.some.injEq] at hk
    rw [← hk]
    exact ⟨fun h => (by cases h), fun h => by
      rcases h.2 with ⟨e, _⟩ | ⟨e, _⟩ | ⟨e, _⟩
      · omega
      · omega
      · exact absurd e e1⟩

/-! a strip's steps are those of its parts -/
def toP (a : Str) : List Conf.Pt := List.zip (true :: a.2.map fun k => k == 2) a.1

theorem T_app {p s t : List Conf.Pt} (h : Conf.T s t) : Conf.T (p ++ s) (p ++ t) := by
  induction p with
  | nil => exact h
  | cons x p ih => exact .cons ih

theorem split3 (l : List Int) (m : Nat) (h : m + 3 ≤ l.length) : ∃ p x y z q, p.length = m ∧ l = p ++ x :: y :: z :: q := by
  refine ⟨l.take m, l[m], l[m + 1], l[m + 2], l.drop (m + 3), by simp; omega, ?_⟩
  rw [← List.drop_eq_getElem_cons (by omega), ← List.drop_eq_getElem_cons (by omega), ← List.drop_eq_getElem_cons (by omega), List.take_append_drop]

theorem split2 (l : List Int) (m : Nat) (h : m + 2 ≤ l.length) : ∃ p x y q, p.length = m ∧ l = p ++ x :: y :: q := by
  refine ⟨l.take m, l[m], l[m + 1], l.drop (m + 2), by simp; omega, ?_⟩
  rw [← List.drop_eq_getElem_cons (by omega), ← List.drop_eq_getElem_cons (by omega), List.take_append_drop]

theorem okS_inv {a : Str} (h : okS a = true) : Shp a ∧ (∀ x, x ∈ a.1 → 1 ≤ x ∧ x ≤ 1000) ∧ tot a.1 ≤ 1000 ∧ ∀ k, k ∈ a.2 → k = 2 ∨ k = 3 := by
  refine ⟨okS_len h, ?_⟩
  simp only [okS, szs, Bool.and_eq_true, decide_eq_true_eq, List.all_eq_true] at h
  refine ⟨fun x hx => ?_, h.1.2.2, fun k hk => ?_⟩
  · have := h.1.2.1 x hx
    simpa only [P1, Bool.and_eq_true, decide_eq_true_eq] using this
  · have := h.2.2 k hk
    simp only [P2, Bool.and_eq_true, decide_eq_true_eq] at this
    omega

theorem okS_mk {a : Str} (h : Shp a) (h1 : ∀ x, x ∈ a.1 → 1 ≤ x ∧ x ≤ 1000) (h2 : tot a.1 ≤ 1000) (h3 : ∀ k, k ∈ a.2 → k = 2 ∨ k = 3) : okS a = true := by
  simp only [okS, szs, Bool.and_eq_true, decide_eq_true_eq, List.all_eq_true]
  refine ⟨⟨⟨h.1, h.2.1⟩, fun x hx => ?_, h2⟩, h.2.2, fun k hk => ?_⟩
  · simp only [P1, Bool.and_eq_true, decide_eq_true_eq]; exact h1 x hx
  · simp only [P2, Bool.and_eq_true, decide_eq_true_eq]
    have := h3 k hk
    omega

theorem tot_app : ∀ (p q : List Int), tot (p ++ q) = tot p + tot q
  | [], q => by simp [tot]
  | x :: p, q => by simp only [List.cons_append, tot, tot_app p q]; omega

theorem tot_nonneg : ∀ (p : List Int), (∀ x, x ∈ p → 1 ≤ x ∧ x ≤ 1000) → 0 ≤ tot p
  | [], _ => by simp [tot]
  | x :: p, h => by
    have h1 := (h x (by simp)).1
    have h2 := tot_nonneg p fun y hy => h y (by simp [hy])
    simp only [tot]; omega

theorem getD_app {α : Type} (d : α) (p : List α) (x : α) (q : List α) : (p ++ x :: q).getD p.length d = x := by
  simp [List.getD_eq_getElem?_getD]

/-- A possible step leads to a valid strip, by a step of its parts. -/
theorem step_conf {a : Str} (h : okS a = true) {x : Sp} (hc : canB a x = true) : okS (stepA a x) = true ∧ Conf.St (toP a) (toP (stepA a x)) := by
  obtain ⟨hS, hL, hT, hK⟩ := okS_inv h
  have hS' := (stepA_shp hS hc).1
  obtain ⟨hn, hx⟩ := (can_iff hS x).1 hc
  obtain ⟨s1, s2, s3⟩ := id hS
  obtain ⟨l, ks⟩ := a
  simp only at *
  rcases hx with ⟨e, e0, hle⟩ | ⟨e, e', hle⟩ | ⟨e, e1, e2, hle1, hle2, hne⟩
  · -- the first part
    match l, ks, hn with
    | x0 :: x1 :: q, ks, _ =>
      cases ks with
      | nil => simp at s3; omega
      | cons k1 qk =>
        have hst : stepA (x0 :: x1 :: q, k1 :: qk) x = (x1 :: q, qk) := by unfold stepA; rw [if_pos e]; rfl
        rw [hst] at hS' ⊢
        refine ⟨okS_mk hS' (fun y hy => hL y (List.mem_cons_of_mem _ hy)) ?_ fun k hk => hK k (by simp [hk]), ?_⟩
        · have := (hL x0 (by simp)).1
          simp only [tot] at hT ⊢; omega
        · show Conf.St ((true, x0) :: (k1 == 2, x1) :: List.zip (qk.map fun k => k == 2) q) ((true, x1) :: List.zip (qk.map fun k => k == 2) q)
          exact .first (by simpa using hle)
  · -- the last part
    obtain ⟨p, y0, y1, q, hp, rfl⟩ := split2 l (l.length - 2) (by omega)
    have hq : q = [] := by
      have : (p ++ y0 :: y1 :: q).length = p.length + q.length + 2 := by simp; omega
      have : q.length = 0 := by omega
      exact List.length_eq_zero_iff.1 this
    subst hq
    have hlen : (p ++ [y0, y1]).length = p.length + 2 := by simp
    have hkl : ks.length = p.length + 1 := by rw [hlen] at s3; omega
    obtain ⟨pk, k1, hks, hpk⟩ : ∃ pk k1, ks = pk ++ [k1] ∧ pk.length = p.length := by
      refine ⟨ks.take p.length, ks[p.length], ?_, by simp; omega⟩
      rw [List.take_append_getElem]
      exact (List.take_of_length_le (by omega)).symm
    subst hks
    have hst : stepA (p ++ [y0, y1], pk ++ [k1]) x = (p ++ [y0], pk) := by
      unfold stepA
      rw [if_neg (by omega), if_pos e]
      simp only [hlen]
      refine Prod.ext ?_ ?_
      · show (p ++ [y0, y1]).take (p.length + 2 - 1) = p ++ [y0]
        rw [show p ++ [y0, y1] = (p ++ [y0]) ++ [y1] by simp, List.take_left' (by simp)]
      · show (pk ++ [k1]).take (p.length + 2 - 2) = pk
        rw [List.take_left' (by omega)]
    rw [hst] at hS' ⊢
    have hle' : y1 ≤ y0 := by
      rw [hlen] at hle
      have a1 : (p ++ [y0, y1]).getD (p.length + 2 - 1) 0 = y1 := by
        have : (p ++ [y0]) ++ y1 :: [] = p ++ [y0, y1] := by simp
        rw [← this, show p.length + 2 - 1 = (p ++ [y0]).length by simp]
        exact getD_app 0 _ _ _
      have a2 : (p ++ [y0, y1]).getD (p.length + 2 - 2) 0 = y0 := by
        rw [show p.length + 2 - 2 = p.length by omega]
        exact getD_app 0 _ _ _
      rw [a1, a2] at hle; exact hle
    refine ⟨okS_mk hS' (fun y hy => hL y (by simp at hy ⊢; rcases hy with h | h <;> simp [h])) ?_ fun k hk => hK k (by simp [hk]), ?_⟩
    · have h1 := (hL y1 (by simp)).1
      rw [tot_app] at hT ⊢
      simp only [tot] at hT ⊢; omega
    · obtain ⟨pk', κ, hpk', hlk⟩ : ∃ pk' κ, (true :: pk.map fun k => k == 2) = pk' ++ [κ] ∧ pk'.length = p.length := by
        refine ⟨(true :: pk.map fun k => k == 2).take p.length, (true :: pk.map fun k => k == 2)[p.length]'(by simp; omega), ?_, by simp; omega⟩
        rw [List.take_append_getElem]
        exact (List.take_of_length_le (by simp; omega)).symm
      have z1 : toP (p ++ [y0, y1], pk ++ [k1]) = List.zip pk' p ++ [(κ, y0), (k1 == 2, y1)] := by
        unfold toP
        simp only [List.map_append, List.map_cons, List.map_nil]
        rw [← List.cons_append, hpk', List.append_assoc, List.zip_append hlk]; rfl
      have z2 : toP (p ++ [y0], pk) = List.zip pk' p ++ [(κ, y0)] := by
        unfold toP
        rw [hpk', List.zip_append hlk]; rfl
      rw [z1, z2]
      exact .inn (T_app (.last hle'))
  · -- a crimp
    obtain ⟨m, hm⟩ : ∃ m : Nat, x.2 = (m : Int) + 1 := ⟨(x.2 - 1).toNat, by omega⟩
    obtain ⟨p, x0, x1, x2, q, hp, rfl⟩ := split3 l m (by omega)
    have hlen : (p ++ x0 :: x1 :: x2 :: q).length = p.length + q.length + 3 := by simp; omega
    obtain ⟨pk, k1, k2, qk, hpk, rfl⟩ := split2 ks m (by omega)
    have ht : x.2.toNat = m + 1 := by omega
    have g0 : (p ++ x0 :: x1 :: x2 :: q).getD m 0 = x0 := by rw [← hp]; exact getD_app 0 _ _ _
    have g1 : (p ++ x0 :: x1 :: x2 :: q).getD (m + 1) 0 = x1 := by
      have : (p ++ [x0]) ++ x1 :: x2 :: q = p ++ x0 :: x1 :: x2 :: q := by simp
      rw [← this, show m + 1 = (p ++ [x0]).length by simp [hp]]; exact getD_app 0 _ _ _
    have g2 : (p ++ x0 :: x1 :: x2 :: q).getD (m + 2) 0 = x2 := by
      have : (p ++ [x0, x1]) ++ x2 :: q = p ++ x0 :: x1 :: x2 :: q := by simp
      rw [← this, show m + 2 = (p ++ [x0, x1]).length by simp [hp]]; exact getD_app 0 _ _ _
    have c0 : (pk ++ k1 :: k2 :: qk).getD m 0 = k1 := by rw [← hpk]; exact getD_app 0 _ _ _
    have c1 : (pk ++ k1 :: k2 :: qk).getD (m + 1) 0 = k2 := by
      have : (pk ++ [k1]) ++ k2 :: qk = pk ++ k1 :: k2 :: qk := by simp
      rw [← this, show m + 1 = (pk ++ [k1]).length by simp [hpk]]; exact getD_app 0 _ _ _
    rw [ht, show m + 1 - 1 = m by omega, g0, g1] at hle1
    rw [ht, g1, show m + 1 + 1 = m + 2 by omega, g2] at hle2
    rw [ht, show m + 1 - 1 = m by omega, c0, c1] at hne
    have b0 := hL x0 (by simp)
    have b1 := hL x1 (by simp)
    have b2 := hL x2 (by simp)
    have hst : stepA (p ++ x0 :: x1 :: x2 :: q, pk ++ k1 :: k2 :: qk) x = (p ++ (x0 - x1 + x2) :: q, pk ++ qk) := by
      unfold stepA
      rw [if_neg (by omega), if_neg (by omega)]
      simp only [ht, show m + 1 - 1 = m by omega, g0, g1, show m + 1 + 1 = m + 2 by omega, g2, show m + 1 + 2 = m + 3 by omega]
      rw [wrap_id (n := x0 - x1) (by omega) (by omega), wrap_id (n := x0 - x1 + x2) (by omega) (by omega)]
      rw [List.take_left' hp, List.take_left' hpk]
      have d1 : (p ++ x0 :: x1 :: x2 :: q).drop (m + 3) = q := by
        rw [show p ++ x0 :: x1 :: x2 :: q = (p ++ [x0, x1, x2]) ++ q by simp, List.drop_left' (by simp [hp])]
      have d2 : (pk ++ k1 :: k2 :: qk).drop (m + 2) = qk := by
        rw [show pk ++ k1 :: k2 :: qk = (pk ++ [k1, k2]) ++ qk by simp, List.drop_left' (by simp [hpk])]
      rw [d1, d2]
    rw [hst] at hS' ⊢
    have htot : tot (p ++ x0 :: x1 :: x2 :: q) = tot p + x0 + x1 + x2 + tot q := by
      rw [tot_app]; simp only [tot]; omega
    have hp0 := tot_nonneg p fun y hy => hL y (by simp [hy])
    have hq0 := tot_nonneg q fun y hy => hL y (by simp [hy])
    have htot2 : tot (p ++ (x0 - x1 + x2) :: q) = tot p + (x0 - x1 + x2) + tot q := by
      rw [tot_app]; simp only [tot]; omega
    refine ⟨okS_mk hS' (fun y hy => ?_) (by show tot (p ++ (x0 - x1 + x2) :: q) ≤ 1000; omega) fun k hk => hK k (by simp at hk ⊢; rcases hk with h | h <;> simp [h]), ?_⟩
    · rcases List.mem_append.1 hy with h1 | h1
      · exact hL y (by simp [h1])
      · rcases List.mem_cons.1 h1 with h1 | h1
        · subst h1; omega
        · exact hL y (by simp [h1])
    · obtain ⟨pk', κ, hpk', hlk⟩ : ∃ pk' κ, (true :: pk.map fun k => k == 2) = pk' ++ [κ] ∧ pk'.length = p.length := by
        refine ⟨(true :: pk.map fun k => k == 2).take p.length, (true :: pk.map fun k => k == 2)[p.length]'(by simp; omega), ?_, by simp; omega⟩
        rw [List.take_append_getElem]
        exact (List.take_of_length_le (by simp; omega)).symm
      have z1 : toP (p ++ x0 :: x1 :: x2 :: q, pk ++ k1 :: k2 :: qk) = List.zip pk' p ++ (κ, x0) :: (k1 == 2, x1) :: (k2 == 2, x2) :: List.zip (qk.map fun k => k == 2) q := by
        unfold toP
        simp only [List.map_append, List.map_cons]
        rw [← List.cons_append, hpk', List.append_assoc, List.zip_append hlk]; rfl
      have z2 : toP (p ++ (x0 - x1 + x2) :: q, pk ++ qk) = List.zip pk' p ++ (κ, x0 - x1 + x2) :: List.zip (qk.map fun k => k == 2) q := by
        unfold toP
        simp only [List.map_append]
        rw [← List.cons_append, hpk', List.append_assoc, List.zip_append hlk]; rfl
      rw [z1, z2]
      refine .inn (T_app (.crimp hle1 hle2 ?_))
      have k1' := hK k1 (by simp)
      have k2' := hK k2 (by simp)
      rcases k1' with rfl | rfl <;> rcases k2' with rfl | rfl <;> first | exact absurd rfl hne | decide

theorem T_inv {s t : List Conf.Pt} (h : Conf.T s t) : (∃ p κ x k1 y k2 z q, s = p ++ (κ, x) :: (k1, y) :: (k2, z) :: q ∧ y ≤ x ∧ y ≤ z ∧ k1 ≠ k2) ∨ (∃ p κ x k1 y, s = p ++ [(κ, x), (k1, y)] ∧ y ≤ x) := by
  induction h with
  | @crimp k a k1 b k2 c q h1 h2 h3 => exact .inl ⟨[], k, a, k1, b, k2, c, q, rfl, h1, h2, h3⟩
  | @last k a k1 b h1 => exact .inr ⟨[], k, a, k1, b, rfl, h1⟩
  | @cons x s t _ ih =>
    rcases ih with ⟨p, κ, a, k1, b, k2, c, q, rfl, h1, h2, h3⟩ | ⟨p, κ, a, k1, b, rfl, h1⟩
    · exact .inl ⟨x :: p, κ, a, k1, b, k2, c, q, rfl, h1, h2, h3⟩
    · exact .inr ⟨x :: p, κ, a, k1, b, rfl, h1⟩

theorem toP_len {a : Str} (h : Shp a) : (toP a).length = a.1.length := by
  obtain ⟨h1, h2, h3⟩ := h
  unfold toP
  simp; omega

theorem toP_snd {a : Str} (i : Nat) (x : Conf.Pt) (hx : (toP a)[i]? = some x) : a.1.getD i 0 = x.2 := by
  unfold toP at hx
  rw [List.getElem?_zip_eq_some] at hx
  rw [List.getD_eq_getElem?_getD, hx.2]; rfl

theorem toP_fst {a : Str} (i : Nat) (x : Conf.Pt) (hx : (toP a)[i + 1]? = some x) : (a.2.getD i 0 == 2) = x.1 := by
  unfold toP at hx
  rw [List.getElem?_zip_eq_some] at hx
  have h1 := hx.1
  rw [List.getElem?_cons_succ, List.getElem?_map] at h1
  cases hk : a.2[i]? with
  | none => rw [hk] at h1; cases h1
  | some k =>
    rw [hk] at h1
    rw [List.getD_eq_getElem?_getD, hk]
    simpa using h1

/-- Where no step is possible, none of its parts' is. -/
theorem irr_conf {a : Str} (h : Shp a) (hc : ∀ x, canB a x = false) : Conf.Irr (toP a) := by
  have hl := toP_len h
  obtain ⟨h1, h2, h3⟩ := id h
  intro t ht
  have no : ∀ x : Sp, ¬ (2 ≤ a.1.length ∧
    ((x.1 = 2 ∧ x.2 = 0 ∧ a.1.getD 0 0 ≤ a.1.getD 1 0) ∨ (x.1 = 3 ∧ x.2 = (a.1.length : Int) - 1 ∧ a.1.getD (a.1.length - 1) 0 ≤ a.1.getD (a.1.length - 2) 0) ∨
     (x.1 = 1 ∧ 1 ≤ x.2 ∧ x.2 ≤ (a.1.length : Int) - 2 ∧ a.1.getD x.2.toNat 0 ≤ a.1.getD (x.2.toNat - 1) 0 ∧ a.1.getD x.2.toNat 0 ≤ a.1.getD (x.2.toNat + 1) 0 ∧ a.2.getD (x.2.toNat - 1) 0 ≠ a.2.getD x.2.toNat 0))) := by
    intro x hx
    have := (can_iff h x).2 hx
    rw [hc x] at this; cases this
  cases hs : toP a with
  | nil => rw [hs] at ht; cases ht with | inn h => cases h
  | cons x0 r0 =>
    rw [hs] at ht
    rw [← hs] at ht
    generalize hP : toP a = P at ht
    cases ht with
    | @first k x k1 y q hle =>
      have e0 := toP_snd 0 (k, x) (by rw [hP]; rfl)
      have e1 := toP_snd 1 (k1, y) (by rw [hP]; rfl)
      rw [hP] at hl
      simp only [List.length_cons] at hl
      exact no (2, 0) ⟨by omega, .inl ⟨rfl, rfl, by rw [e0, e1]; exact hle⟩⟩
    | inn hT =>
      rcases T_inv hT with ⟨p, κ, x, k1, y, k2, z, q, hp, g1, g2, g3⟩ | ⟨p, κ, x, k1, y, hp, g1⟩
      · subst hp
        rw [hP] at hl
        have hl' : p.length + q.length + 3 = a.1.length := by simp at hl; omega
        have e0 := toP_snd p.length (κ, x) (by rw [hP]; simp)
        have e1 := toP_snd (p.length + 1) (k1, y) (by rw [hP, List.getElem?_append_right (by omega)]; simp)
        have e2 := toP_snd (p.length + 2) (k2, z) (by rw [hP, List.getElem?_append_right (by omega)]; simp)
        have f1 := toP_fst p.length (k1, y) (by rw [hP, List.getElem?_append_right (by omega)]; simp)
        have f2 := toP_fst (p.length + 1) (k2, z) (by rw [hP, show p.length + 1 + 1 = p.length + 2 from rfl, List.getElem?_append_right (by omega), show p.length + 2 - p.length = 2 by omega]; rfl)
        refine no (1, (p.length : Int) + 1) ⟨by omega, .inr (.inr ⟨rfl, by show (1 : Int) ≤ (p.length : Int) + 1; omega, by show (p.length : Int) + 1 ≤ (a.1.length : Int) - 2; omega, ?_, ?_, ?_⟩)⟩
        · simp only [show ((p.length : Int) + 1).toNat = p.length + 1 by omega, Nat.add_sub_cancel]
          rw [e0, e1]; exact g1
        · simp only [show ((p.length : Int) + 1).toNat = p.length + 1 by omega]
          rw [e1, e2]; exact g2
        · simp only [show ((p.length : Int) + 1).toNat = p.length + 1 by omega, Nat.add_sub_cancel]
          intro e
          rw [e] at f1
          exact g3 (f1.symm.trans f2)
      · subst hp
        rw [hP] at hl
        have hl' : p.length + 2 = a.1.length := by simpa using hl
        have e0 := toP_snd p.length (κ, x) (by rw [hP]; simp)
        have e1 := toP_snd (p.length + 1) (k1, y) (by rw [hP, List.getElem?_append_right (by omega)]; simp)
        refine no (3, (a.1.length : Int) - 1) ⟨by omega, .inr (.inl ⟨rfl, rfl, ?_⟩)⟩
        rw [show a.1.length - 1 = p.length + 1 by omega, show a.1.length - 2 = p.length by omega, e0, e1]
        exact g1

theorem mem_mids : ∀ (n : Nat) (i j : Int), i ≤ j → j < i + n → ((1 : Int), j) ∈ mids n i
  | 0, i, j, h1, h2 => by omega
  | n + 1, i, j, h1, h2 => by
    simp only [mids, List.mem_cons, Prod.mk.injEq, true_and]
    by_cases h : j = i
    · exact .inl h
    · exact .inr (mem_mids n (i + 1) j (by omega) (by omega))

theorem mem_stepL {a : Str} (h : Shp a) {x : Sp} (hc : canB a x = true) : x ∈ stepL a := by
  obtain ⟨h0, h1⟩ := (can_iff h x).1 hc
  obtain ⟨x1, x2⟩ := x
  simp only [stepL, List.mem_append, List.mem_cons, List.not_mem_nil, or_false, Prod.mk.injEq]
  rcases h1 with ⟨e, e', _⟩ | ⟨e, e', _⟩ | ⟨e, e1, e2, _⟩
  · exact .inl (.inl ⟨e, e'⟩)
  · exact .inr ⟨e, e'⟩
  · simp only at e e1 e2
    subst e
    exact .inl (.inr (mem_mids _ _ _ e1 (by omega)))

/-- The reduction leads to the one end. -/
theorem redL_conf : ∀ (n : Nat) (acc : List Sp) (a : Str), okS a = true → a.1.length ≤ n → Conf.R (toP a) (toP (redL n acc a).2) ∧ Conf.Irr (toP (redL n acc a).2) ∧ Shp (redL n acc a).2
  | 0, acc, a, h, hn => by have := (okS_len h).1; omega
  | n + 1, acc, a, h, hn => by
    have hS := okS_len h
    unfold redL
    cases hf : (stepL a).filter (canB a) with
    | nil =>
      refine ⟨.refl, irr_conf hS fun x => ?_, hS⟩
      cases hx : canB a x with
      | false => rfl
      | true =>
        have : x ∈ (stepL a).filter (canB a) := List.mem_filter.2 ⟨mem_stepL hS hx, hx⟩
        rw [hf] at this; cases this
    | cons x r =>
      have hx : canB a x = true := (List.mem_filter.1 (show x ∈ (stepL a).filter (canB a) by rw [hf]; simp)).2
      obtain ⟨k1, k2⟩ := step_conf h hx
      have hlt := (stepA_shp hS hx).2
      obtain ⟨m1, m2, m3⟩ := redL_conf n (acc ++ [x]) (stepA a x) k1 (by omega)
      exact ⟨.step k2 m1, m2, m3⟩

/-- A step does not change whether a strip can be folded flat. -/
theorem flat_step {a : Str} (h : okS a = true) {x : Sp} (hc : canB a x = true) : flatB (stepA a x) = flatB a := by
  obtain ⟨k1, k2⟩ := step_conf h hc
  have hS := okS_len h
  have hlt := (stepA_shp hS hc).2
  obtain ⟨a1, a2, a3⟩ := redL_conf 20 [] a h (by have := hS.2.1; omega)
  obtain ⟨b1, b2, b3⟩ := redL_conf 20 [] (stepA a x) k1 (by have := hS.2.1; omega)
  have e := Conf.unique _ (toP a) (Nat.le_refl _) _ _ a1 (.step k2 b1) a2 b2
  unfold flatB
  rw [← toP_len a3, ← toP_len b3, e]

theorem redL_acc : ∀ (n : Nat) (acc : List Sp) (a : Str), redL n acc a = (acc ++ (redL n [] a).1, (redL n [] a).2)
  | 0, acc, a => by simp [redL]
  | n + 1, acc, a => by
    unfold redL
    cases (stepL a).filter (canB a) with
    | nil => simp
    | cons x r =>
      simp only
      rw [redL_acc n (acc ++ [x]), redL_acc n ([] ++ [x])]
      simp

/-- The steps that a reduction tells lead to where it leads. -/
theorem chk_red : ∀ (n : Nat) (a : Str), chkB (redL n [] a).1 a = ((((redL n [] a).2.1.length : Nat) : Int) == 1)
  | 0, a => rfl
  | n + 1, a => by
    unfold redL
    cases hf : (stepL a).filter (canB a) with
    | nil => rfl
    | cons x r =>
      have hx : canB a x = true := (List.mem_filter.1 (show x ∈ (stepL a).filter (canB a) by rw [hf]; simp)).2
      simp only
      rw [redL_acc n ([] ++ [x])]
      simp only [List.nil_append, List.singleton_append, chkB, hx, cond_true]
      exact chk_red n (stepA a x)
end Go.Proofs.Ytjfgddmngnkfdaa
