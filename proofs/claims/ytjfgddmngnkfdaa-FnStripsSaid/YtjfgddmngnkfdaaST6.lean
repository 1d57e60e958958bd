/- The strip that is drawn. No conditions. -/
import Derived.Test.YtjfgddmngnkfdaaPK
import Derived.Test.YtjfgddmngnkfdaaST2q
namespace Go.Proofs.Ytjfgddmngnkfdaa
open Go.Vai
/-! the source of choices -/
theorem u64_id {n : Int} (h0 : 0 ≤ n) (h1 : n ≤ 1000000) : IntKind.wrap .u64 n = n := by
  simp only [IntKind.wrap, IntKind.bits, IntKind.signed]
  simp
  omega

theorem and255 (x : Int) : 0 ≤ IntKind.wrap .i64 (IntKind.wrap .u64 (((BitVec.toNat ((BitVec.ofInt 64 x) &&& (BitVec.ofInt 64 (255 : Int)))) : Nat) : Int)) ∧
    IntKind.wrap .i64 (IntKind.wrap .u64 (((BitVec.toNat ((BitVec.ofInt 64 x) &&& (BitVec.ofInt 64 (255 : Int)))) : Nat) : Int)) ≤ 255 := by
  have h : (BitVec.toNat ((BitVec.ofInt 64 x) &&& (BitVec.ofInt 64 (255 : Int)))) ≤ 255 := by
    rw [BitVec.toNat_and]
    exact Nat.and_le_right
  generalize (BitVec.toNat ((BitVec.ofInt 64 x) &&& (BitVec.ofInt 64 (255 : Int)))) = n at h
  rw [u64_id (by omega) (by omega), wrap_id (by omega) (by omega)]
  omega

/-- Bytes. -/
def Byt (c : List Int) : Prop := ∀ x, x ∈ c → 0 ≤ x ∧ x ≤ 255

theorem next_ok {c : List Int} (hc : Byt c) {i : Int} (h0 : 0 ≤ i) (h1 : i ≤ 1000000) (sd : Int) : ∃ n sd', g_spec_l00Src_next c i sd = some (n, (c, (i + 1, sd'))) ∧ 0 ≤ n ∧ n ≤ 255 := by
  rw [g_spec_l00Src_next, t_spec_l00Src_next, wrap_id (n := i + 1) (by omega) (by omega)]
  by_cases hi : i < (c.length : Int)
  · have hlt : i.toNat < c.length := by omega
    have hx : idx c i = some c[i.toNat] := by unfold idx; rw [if_pos h0, List.getElem?_eq_getElem hlt]
    have hb := hc c[i.toNat] (List.getElem_mem hlt)
    rw [decide_eq_true hi, cond_true, hx, Option.bind_some, wrap_id (n := c[i.toNat]) (by omega) (by omega)]
    cases decide (i + 1 ≤ (c.length : Int))
    · exact ⟨_, _, rfl, and255 _⟩
    · exact ⟨_, _, rfl, hb⟩
  · rw [decide_eq_false hi, cond_false]
    cases decide (i + 1 ≤ (c.length : Int))
    · exact ⟨_, _, rfl, and255 _⟩
    · exact ⟨_, _, rfl, by omega, by omega⟩

/-- A source after at most 'k' choices. -/
def Src (c : List Int) (k : Int) (s : List Int × (Int × Int)) : Prop := s.1 = c ∧ 0 ≤ s.2.1 ∧ s.2.1 ≤ k

theorem pick_ok {c : List Int} (hc : Byt c) {k : Int} (hk : k ≤ 900000) {s : List Int × (Int × Int)} (hs : Src c k s) (m : Int) (hm : m ≤ 1000000) :
    ∃ n s', g_spec_l00Src_pick s.1 s.2.1 s.2.2 m = some (n, s') ∧ Src c (k + 2) s' ∧ 0 ≤ n ∧ (n < m ∨ (m ≤ 1 ∧ n = 0)) := by
  obtain ⟨c', i, sd⟩ := s
  obtain ⟨rfl, h0, h1⟩ := hs
  simp only at h0 h1 ⊢
  rw [g_spec_l00Src_pick, t_spec_l00Src_pick]
  by_cases h : m ≤ 1
  · rw [decide_eq_true h, cond_true]
    exact ⟨0, (c', (i, sd)), rfl, ⟨rfl, h0, by simp only; omega⟩, by omega, .inr ⟨h, rfl⟩⟩
  · obtain ⟨a, sd1, e1, a0, a1⟩ := next_ok hc h0 (by omega) sd
    rw [decide_eq_false h, cond_false, e1, Option.bind_some]
    simp only
    by_cases h2 : m > 200
    · obtain ⟨b, sd2, e2, b0, b1⟩ := next_ok hc (i := i + 1) (by omega) (by omega) sd1
      rw [decide_eq_true h2, cond_true, e2, Option.bind_some]
      simp only
      rw [wrap_id (n := a * 256) (by omega) (by omega), wrap_id (n := a * 256 + b) (by omega) (by omega)]
      simp only [cond_false, decide_eq_false (show ¬ m = 0 by omega)]
      refine ⟨_, _, rfl, ⟨rfl, by simp only; omega, by simp only; omega⟩, ?_, .inl ?_⟩
      · rw [Int.tmod_eq_emod_of_nonneg (by omega)]; exact Int.emod_nonneg _ (by omega)
      · rw [Int.tmod_eq_emod_of_nonneg (by omega)]; exact Int.emod_lt_of_pos _ (by omega)
    · rw [decide_eq_false h2, cond_false]
      simp only [decide_eq_false (show ¬ m = 0 by omega), cond_false]
      refine ⟨_, _, rfl, ⟨rfl, by simp only; omega, by simp only; omega⟩, ?_, .inl ?_⟩
      · rw [Int.tmod_eq_emod_of_nonneg (by omega)]; exact Int.emod_nonneg _ (by omega)
      · rw [Int.tmod_eq_emod_of_nonneg (by omega)]; exact Int.emod_lt_of_pos _ (by omega)
/-! the strip that is drawn -/
def Okk {α : Type} (P : α → Prop) (o : Option α) : Prop := ∃ r, o = some r ∧ P r
theorem okk_t {p : Prop} [Decidable p] {α : Type} {P : α → Prop} {a b : Option α} (hp : p) (h : Okk P a) : Okk P (cond (decide p) a b) := by rw [decide_eq_true hp]; exact h
theorem okk_f {p : Prop} [Decidable p] {α : Type} {P : α → Prop} {a b : Option α} (hp : ¬ p) (h : Okk P b) : Okk P (cond (decide p) a b) := by rw [decide_eq_false hp]; exact h
theorem okk_c {c : Bool} {α : Type} {P : α → Prop} {a b : Option α} (h1 : c = true → Okk P a) (h2 : c = false → Okk P b) : Okk P (cond c a b) := by
  cases c
  · exact h2 rfl
  · exact h1 rfl
theorem okk_b {α β : Type} {P : β → Prop} {Q : α → Prop} {o : Option α} {f : α → Option β} (h : Okk Q o) (hf : ∀ x, Q x → Okk P (f x)) : Okk P (Option.bind o f) := by
  obtain ⟨r, rfl, hr⟩ := h
  exact hf r hr
theorem idx_mem (l : List Int) {i : Int} (h0 : 0 ≤ i) (h1 : i < l.length) : Okk (fun x => x ∈ l) (idx l i) := by
  unfold idx
  rw [if_pos h0, List.getElem?_eq_getElem (show i.toNat < l.length by omega)]
  exact ⟨_, rfl, List.getElem_mem _⟩
theorem Src.mono {c : List Int} {k k' : Int} {s : List Int × (Int × Int)} (h : Src c k s) (hk : k ≤ k') : Src c k' s := ⟨h.1, h.2.1, by have := h.2.2; omega⟩
/-- A choice among 'm'. -/
theorem pick_k {c : List Int} (hc : Byt c) {k : Int} (hk : k ≤ 900000) {s : List Int × (Int × Int)} (hs : Src c k s) (m : Int) (hm : m ≤ 1000000) :
    Okk (fun y => Src c (k + 2) y.2 ∧ 0 ≤ y.1 ∧ (y.1 < m ∨ (m ≤ 1 ∧ y.1 = 0))) (g_spec_l00Src_pick s.1 s.2.1 s.2.2 m) := by
  obtain ⟨n, s', e, h1, h2, h3⟩ := pick_ok hc hk hs m hm
  exact ⟨(n, s'), e, h1, h2, h3⟩

theorem mem3 {B B' : Int} {l : List Int} (h : ∀ x, x ∈ l → 1 ≤ x ∧ x ≤ B) (hB : B ≤ B') (p q r : Nat) (a b c : Int) (ha : 1 ≤ a ∧ a ≤ B) (hb : 1 ≤ b ∧ b ≤ B) (hc : 1 ≤ c ∧ c ≤ B) :
    ∀ x, x ∈ (([] ++ List.drop 0 (List.take p l)) ++ [a, b, c]) ++ List.drop q (List.take r l) → 1 ≤ x ∧ x ≤ B' := by
  intro x hx
  simp only [List.mem_append, List.mem_cons, List.not_mem_nil, or_false, false_or, List.drop_zero] at hx
  rcases hx with (hx | rfl | rfl | rfl) | hx
  · have := h x (List.mem_of_mem_take hx); omega
  · omega
  · omega
  · omega
  · have := h x (List.mem_of_mem_take (List.mem_of_mem_drop hx)); omega

theorem draw_loop {c : List Int} (hc : Byt c) (x6 : Int) (hx : x6 ≤ 14) (b0 b0' : List Int) : ∀ (n : Nat) (l ks : List Int) (s : List Int × (Int × Int)), x6 ≤ l.length + n → 1 ≤ l.length → l.length ≤ 14 → ks.length + 1 = l.length →
    (∀ x, x ∈ l → 1 ≤ x ∧ x ≤ 5 + (l.length : Int)) → Src c (20 * (l.length : Int)) s →
    Okk (fun r => ∃ l' ks' s', r = .inl (d_spec_l25Draw_4_0 b0 b0' l' ks' s'.1 s'.2.1 s'.2.2) ∧ 1 ≤ l'.length ∧ l'.length ≤ 14 ∧ ks'.length + 1 = l'.length ∧ Src c 280 s')
      (w_spec_l25Draw_4 (m_spec_l25Draw_4 x6 b0 b0' l ks s.1 s.2.1 s.2.2)) := by
  intro n
  induction n with
  | zero =>
    intro l ks s h1 h2 h3 h4 h5 h6
    rw [wq_spec_l25Draw_4, u_spec_l25Draw_4]
    refine okk_f (by omega) ?_
    exact ⟨_, rfl, l, ks, s, rfl, h2, h3, h4, h6.mono (by omega)⟩
  | succ n ih =>
    intro l ks s h1 h2 h3 h4 h5 h6
    rw [wq_spec_l25Draw_4, u_spec_l25Draw_4]
    by_cases hlt : (l.length : Int) < x6
    · refine okk_t hlt ?_
      refine okk_b (pick_k hc (by omega) h6 3 (by omega)) fun y37 ⟨s1, p1, q1⟩ => ?_
      refine okk_b (pick_k hc (by omega) s1 2 (by omega)) fun y38 ⟨s2, p2, q2⟩ => ?_
      refine okk_b (idx_mem l (by omega) (by omega)) fun y39 h39 => ?_
      have b39 := h5 y39 h39
      refine okk_c (fun _ => ?_) (fun _ => ?_)
      · rw [wrap_id (n := y39 + 1) (by omega) (by omega)]
        refine okk_b (pick_k hc (by omega) s2 (y39 + 1) (by omega)) fun y40 ⟨s3, p3, q3⟩ => ?_
        rw [wrap_id (n := 1 + y40.1) (by omega) (by omega)]
        simp only [List.length_singleton]
        refine okk_t (by omega) (okk_t (by omega) (okk_t (by omega) (okk_t (by omega) ?_)))
        refine ih ([1 + y40.1] ++ l) _ y40.2 ?_ ?_ ?_ ?_ ?_ (s3.mono ?_)
        · simp only [List.length_append, List.length_singleton]; omega
        · simp only [List.length_append, List.length_singleton]; omega
        · simp only [List.length_append, List.length_singleton]; omega
        · simp only [List.length_append, List.length_singleton]; omega
        · intro x hx'
          simp only [List.singleton_append, List.length_cons]
          rcases List.mem_cons.1 hx' with rfl | hx'
          · omega
          · have := h5 x hx'; omega
        · simp only [List.length_append, List.length_singleton]; omega
      refine okk_c (fun _ => ?_) (fun _ => ?_)
      · refine okk_b (pick_k hc (by omega) s2 6 (by omega)) fun y40 ⟨s3, p3, q3⟩ => ?_
        rw [wrap_id (n := 1 + y40.1) (by omega) (by omega)]
        simp only [List.length_singleton]
        refine okk_t (by omega) (okk_t (by omega) (okk_t (by omega) (okk_t (by omega) ?_)))
        refine ih (l ++ [1 + y40.1]) _ y40.2 ?_ ?_ ?_ ?_ ?_ (s3.mono ?_)
        · simp only [List.length_append, List.length_singleton]; omega
        · simp only [List.length_append, List.length_singleton]; omega
        · simp only [List.length_append, List.length_singleton]; omega
        · simp only [List.length_append, List.length_singleton]; omega
        · intro x hx'
          simp only [List.length_append, List.length_singleton]
          rcases List.mem_append.1 hx' with hx' | hx'
          · have := h5 x hx'; omega
          · rw [List.mem_singleton.1 hx']; omega
        · simp only [List.length_append, List.length_singleton]; omega
      rw [wrap_id (n := ((l.length : Nat) : Int) + 2) (by omega) (by omega)]
      by_cases h2n : ((l.length : Nat) : Int) + 2 > x6
      · refine okk_t h2n ?_
        refine okk_b (pick_k hc (by omega) s2 6 (by omega)) fun y40 ⟨s3, p3, q3⟩ => ?_
        rw [wrap_id (n := 1 + y40.1) (by omega) (by omega)]
        simp only [List.length_singleton]
        refine okk_t (by omega) (okk_t (by omega) (okk_t (by omega) (okk_t (by omega) ?_)))
        refine ih (l ++ [1 + y40.1]) _ y40.2 ?_ ?_ ?_ ?_ ?_ (s3.mono ?_)
        · simp only [List.length_append, List.length_singleton]; omega
        · simp only [List.length_append, List.length_singleton]; omega
        · simp only [List.length_append, List.length_singleton]; omega
        · simp only [List.length_append, List.length_singleton]; omega
        · intro x hx'
          simp only [List.length_append, List.length_singleton]
          rcases List.mem_append.1 hx' with hx' | hx'
          · have := h5 x hx'; omega
          · rw [List.mem_singleton.1 hx']; omega
        · simp only [List.length_append, List.length_singleton]; omega
      refine okk_f h2n ?_
      refine okk_b (pick_k hc (by omega) s2 _ (by omega)) fun y43 ⟨s3, p3, q3⟩ => ?_
      refine okk_b (idx_mem l p3 (by omega)) fun y44 h44 => ?_
      have b44 := h5 y44 h44
      refine okk_b (pick_k hc (by omega) s3 y44 (by omega)) fun y45 ⟨s4, p4, q4⟩ => ?_
      rw [wrap_id (n := 1 + y45.1) (by omega) (by omega)]
      refine okk_b (pick_k hc (by omega) s4 (1 + y45.1) (by omega)) fun y46 ⟨s5, p5, q5⟩ => ?_
      rw [wrap_id (n := 1 + y46.1) (by omega) (by omega), wrap_id (n := y44 - (1 + y45.1)) (by omega) (by omega), wrap_id (n := y44 - (1 + y45.1) + (1 + y46.1)) (by omega) (by omega), wrap_id (n := y43.1 + 1) (by omega) (by omega)]
      simp only [List.length_append, List.length_cons, List.length_nil, List.length_take, List.length_drop]
      by_cases hk0 : 0 < ks.length
      · repeat (refine okk_t (by omega) ?_)
        refine ih _ _ y46.2 ?_ ?_ ?_ ?_ (mem3 h5 ?_ _ _ _ _ _ _ (by omega) (by omega) (by omega)) (s5.mono ?_)
        · simp only [List.length_append, List.length_cons, List.length_nil, List.length_take, List.length_drop]; omega
        · simp only [List.length_append, List.length_cons, List.length_nil, List.length_take, List.length_drop]; omega
        · simp only [List.length_append, List.length_cons, List.length_nil, List.length_take, List.length_drop]; omega
        · simp only [List.length_append, List.length_cons, List.length_nil, List.length_take, List.length_drop]; omega
        · simp only [List.length_append, List.length_cons, List.length_nil, List.length_take, List.length_drop]; omega
        · simp only [List.length_append, List.length_cons, List.length_nil, List.length_take, List.length_drop]; omega
      · repeat (first | refine okk_t (by omega) ?_ | refine okk_f hk0 ?_)
        refine ih _ _ y46.2 ?_ ?_ ?_ ?_ (mem3 h5 ?_ _ _ _ _ _ _ (by omega) (by omega) (by omega)) (s5.mono ?_)
        · simp only [List.length_append, List.length_cons, List.length_nil, List.length_take, List.length_drop]; omega
        · simp only [List.length_append, List.length_cons, List.length_nil, List.length_take, List.length_drop]; omega
        · simp only [List.length_append, List.length_cons, List.length_nil, List.length_take, List.length_drop]; omega
        · simp only [List.length_append, List.length_cons, List.length_nil, List.length_take, List.length_drop]; omega
        · simp only [List.length_append, List.length_cons, List.length_nil, List.length_take, List.length_drop]; omega
        · simp only [List.length_append, List.length_cons, List.length_nil, List.length_take, List.length_drop]; omega
    · refine okk_f hlt ?_
      exact ⟨_, rfl, l, ks, s, rfl, h2, h3, h4, h6.mono (by omega)⟩

/-- A drawn strip has from 1 to 14 parts. -/
theorem draw_ok {c : List Int} (hc : Byt c) {s : List Int × (Int × Int)} (hs : Src c 0 s) :
    Okk (fun y => 1 ≤ y.1.1.length ∧ y.1.1.length ≤ 14 ∧ y.1.2.length + 1 = y.1.1.length ∧ Src c 280 y.2) (g_spec_l25Draw s.1 s.2.1 s.2.2 14) := by
  rw [g_spec_l25Draw, t_spec_l25Draw]
  refine okk_b (pick_k hc (by omega) hs 6 (by omega)) fun y27 ⟨s1, p1, q1⟩ => ?_
  refine okk_b (pick_k hc (by omega) s1 14 (by omega)) fun y28 ⟨s2, p2, q2⟩ => ?_
  rw [wrap_id (n := 1 + y28.1) (by omega) (by omega), wrap_id (n := 1 + y27.1) (by omega) (by omega)]
  refine okk_b (draw_loop hc (1 + y28.1) (by omega) [] [] 14 [1 + y27.1] [] y28.2 (by simp only [List.length_singleton]; omega) (by simp) (by simp) (by simp) (fun x hx => by rw [List.mem_singleton.1 hx]; simp only [List.length_singleton]; omega) (s2.mono (by simp only [List.length_singleton]; omega))) ?_
  rintro _ ⟨l', ks', s', rfl, h1, h2, h3, h4⟩
  exact ⟨_, rfl, h1, h2, h3, h4⟩

theorem one_k {c : List Int} (hc : Byt c) {k : Int} (hk : k ≤ 900000) {s : List Int × (Int × Int)} (hs : Src c k s) (m : Int) (hm : m ≤ 1000000) :
    Okk (fun y => Src c (k + 2) y.2) (g_spec_l00Src_one s.1 s.2.1 s.2.2 m) := by
  rw [g_spec_l00Src_one, t_spec_l00Src_one]
  refine okk_b (pick_k hc hk hs m hm) fun y ⟨s1, p1, q1⟩ => ?_
  exact ⟨_, rfl, s1⟩
theorem among_k {c : List Int} (hc : Byt c) {k : Int} (hk : k ≤ 900000) {s : List Int × (Int × Int)} (hs : Src c k s) (l : List Int) (h0 : 0 < l.length) (hm : l.length ≤ 1000000) :
    Okk (fun y => Src c (k + 2) y.2 ∧ y.1 ∈ l) (g_spec_l00Src_among s.1 s.2.1 s.2.2 l) := by
  rw [g_spec_l00Src_among, t_spec_l00Src_among]
  refine okk_b (pick_k hc hk hs _ (by omega)) fun y ⟨s1, p1, q1⟩ => ?_
  refine okk_b (idx_mem l p1 (by omega)) fun z hz => ?_
  exact ⟨_, rfl, s1, hz⟩

theorem bent_loop (b0 b0' c : List Int) (i sd : Int) : ∀ (n : Nat) (l ks : List Int), 15 ≤ l.length + n → l.length ≤ 20 → l.length ≤ ks.length + 2 → ks.length ≤ l.length + 2 →
    Okk (fun r => ∃ l' ks', r = .inl (d_spec_l25Bent_10_0 b0 b0' l' ks' c i sd) ∧ l'.length ≤ 20 ∧ ks'.length ≤ 30) (w_spec_l25Bent_10 (m_spec_l25Bent_10 b0 b0' l ks c i sd)) := by
  intro n
  induction n with
  | zero =>
    intro l ks h1 h2 h3 h4
    rw [wq_spec_l25Bent_10, u_spec_l25Bent_10]
    refine okk_f (by omega) ?_
    exact ⟨_, rfl, l, ks, rfl, h2, by omega⟩
  | succ n ih =>
    intro l ks h1 h2 h3 h4
    rw [wq_spec_l25Bent_10, u_spec_l25Bent_10]
    by_cases hl : (l.length : Int) ≤ 14
    · refine okk_t hl ?_
      simp only [List.length_singleton]
      refine okk_t (by omega) (okk_t (by omega) (okk_t (by omega) (okk_t (by omega) ?_)))
      refine ih _ _ ?_ ?_ ?_ ?_ <;> (simp only [List.length_append, List.length_singleton]; omega)
    · refine okk_f hl ?_
      exact ⟨_, rfl, l, ks, rfl, h2, by omega⟩

/-- A drawn strip, some of them bent. -/
theorem bent_ok {c : List Int} (hc : Byt c) {s : List Int × (Int × Int)} (hs : Src c 0 s) :
    Okk (fun y => y.1.1.length ≤ 20 ∧ y.1.2.length ≤ 30) (g_spec_l25Bent s.1 s.2.1 s.2.2 14 12) := by
  rw [g_spec_l25Bent, t_spec_l25Bent]
  refine okk_b (draw_ok hc hs) fun y55 ⟨h1, h2, h3, s0⟩ => ?_
  refine okk_b (one_k hc (by omega) s0 4 (by omega)) fun y61 s1 => ?_
  refine okk_c (fun _ => ?_) (fun _ => ?_)
  · by_cases hk : ((y55.1.2.length : Nat) : Int) > 0
    · refine okk_t hk ?_
      refine okk_b (pick_k hc (by omega) s1 _ (by omega)) fun y62 ⟨s1', p1, q1⟩ => ?_
      refine okk_b (idx_mem _ p1 (by omega)) fun y63 _ => ?_
      refine okk_b (idx_mem _ p1 (by omega)) fun _ _ => ?_
      refine okk_b (one_k hc (by omega) s1' 12 (by omega)) fun y65 s2 => ?_
      refine okk_c (fun _ => ⟨_, rfl, by first | omega | (simp; omega), by first | omega | (simp; omega)⟩) (fun _ => ?_)
      refine okk_b (pick_k hc (by omega) s2 _ (by omega)) fun y66 ⟨s3, p3, q3⟩ => ?_
      refine okk_b (pick_k hc (by omega) s3 4 (by omega)) fun y67 ⟨s4, p4, q4⟩ => ?_
      refine okk_c (fun _ => ?_) (fun _ => ?_)
      · refine okk_b (among_k hc (by omega) s4 _ (by decide) (by decide)) fun y74 _ => ?_
        refine okk_b (idx_mem _ p3 (by omega)) fun _ _ => ?_
        exact ⟨_, rfl, by first | omega | (simp; omega), by first | omega | (simp; omega)⟩
      refine okk_c (fun _ => ?_) (fun _ => ?_)
      · refine okk_t (by first | omega | (simp; omega)) (okk_t (by first | omega | (simp; omega)) ?_)
        exact ⟨_, rfl, by first | omega | (simp; omega), by first | omega | (simp; omega)⟩
      refine okk_c (fun _ => ?_) (fun _ => ?_)
      · refine okk_t (by first | omega | (simp; omega)) (okk_t (by first | omega | (simp; omega)) (okk_t (by first | omega | (simp; omega)) (okk_t (by first | omega | (simp; omega)) ?_)))
        exact ⟨_, rfl, by first | omega | (simp; omega), by first | omega | (simp; omega)⟩
      refine okk_b (bent_loop [] [] _ _ _ 15 y55.1.1 (List.set y55.1.2 (0 + (Int.toNat y62.1)) (IntKind.wrap IntKind.i64 ((5 : Int) - y63))) (by omega) (by omega) (by first | omega | (simp; omega)) (by first | omega | (simp; omega))) ?_
      rintro _ ⟨l', ks', rfl, h5, h6⟩
      exact ⟨_, rfl, h5, h6⟩
    · refine okk_f hk ?_
      refine okk_b (one_k hc (by omega) s1 12 (by omega)) fun y65 s2 => ?_
      refine okk_c (fun _ => ⟨_, rfl, by first | omega | (simp; omega), by first | omega | (simp; omega)⟩) (fun _ => ?_)
      refine okk_b (pick_k hc (by omega) s2 _ (by omega)) fun y66 ⟨s3, p3, q3⟩ => ?_
      refine okk_b (pick_k hc (by omega) s3 4 (by omega)) fun y67 ⟨s4, p4, q4⟩ => ?_
      refine okk_c (fun _ => ?_) (fun _ => ?_)
      · refine okk_b (among_k hc (by omega) s4 _ (by decide) (by decide)) fun y74 _ => ?_
        refine okk_b (idx_mem _ p3 (by omega)) fun _ _ => ?_
        exact ⟨_, rfl, by first | omega | (simp; omega), by first | omega | (simp; omega)⟩
      refine okk_c (fun _ => ?_) (fun _ => ?_)
      · refine okk_t (by first | omega | (simp; omega)) (okk_t (by first | omega | (simp; omega)) ?_)
        exact ⟨_, rfl, by first | omega | (simp; omega), by first | omega | (simp; omega)⟩
      refine okk_c (fun _ => ?_) (fun _ => ?_)
      · refine okk_t (by first | omega | (simp; omega)) (okk_t (by first | omega | (simp; omega)) (okk_t (by first | omega | (simp; omega)) (okk_t (by first | omega | (simp; omega)) ?_)))
        exact ⟨_, rfl, by first | omega | (simp; omega), by first | omega | (simp; omega)⟩
      refine okk_b (bent_loop [] [] _ _ _ 15 y55.1.1 y55.1.2 (by omega) (by omega) (by first | omega | (simp; omega)) (by first | omega | (simp; omega))) ?_
      rintro _ ⟨l', ks', rfl, h5, h6⟩
      exact ⟨_, rfl, h5, h6⟩
  · skip
    refine okk_b (one_k hc (by omega) s1 12 (by omega)) fun y65 s2 => ?_
    refine okk_c (fun _ => ⟨_, rfl, by first | omega | (simp; omega), by first | omega | (simp; omega)⟩) (fun _ => ?_)
    refine okk_b (pick_k hc (by omega) s2 _ (by omega)) fun y66 ⟨s3, p3, q3⟩ => ?_
    refine okk_b (pick_k hc (by omega) s3 4 (by omega)) fun y67 ⟨s4, p4, q4⟩ => ?_
    refine okk_c (fun _ => ?_) (fun _ => ?_)
    · refine okk_b (among_k hc (by omega) s4 _ (by decide) (by decide)) fun y74 _ => ?_
      refine okk_b (idx_mem _ p3 (by omega)) fun _ _ => ?_
      exact ⟨_, rfl, by first | omega | (simp; omega), by first | omega | (simp; omega)⟩
    refine okk_c (fun _ => ?_) (fun _ => ?_)
    · refine okk_t (by first | omega | (simp; omega)) (okk_t (by first | omega | (simp; omega)) ?_)
      exact ⟨_, rfl, by first | omega | (simp; omega), by first | omega | (simp; omega)⟩
    refine okk_c (fun _ => ?_) (fun _ => ?_)
    · refine okk_t (by first | omega | (simp; omega)) (okk_t (by first | omega | (simp; omega)) (okk_t (by first | omega | (simp; omega)) (okk_t (by first | omega | (simp; omega)) ?_)))
      exact ⟨_, rfl, by first | omega | (simp; omega), by first | omega | (simp; omega)⟩
    refine okk_b (bent_loop [] [] _ _ _ 15 y55.1.1 y55.1.2 (by omega) (by omega) (by first | omega | (simp; omega)) (by first | omega | (simp; omega))) ?_
    rintro _ ⟨l', ks', rfl, h5, h6⟩
    exact ⟨_, rfl, h5, h6⟩

theorem drawn_ok {c : List Int} (hc : Byt c) : Okk (fun y => y.1.length ≤ 20 ∧ y.2.length ≤ 30) (g_spec_DrawReduceStrip c) := by
  rw [g_spec_DrawReduceStrip, t_spec_DrawReduceStrip]
  have e : ∃ s, g_spec_l00From c = some s ∧ Src c 0 s := ⟨_, rfl, rfl, Int.le_refl _, Int.le_refl _⟩
  obtain ⟨s, e, hs⟩ := e
  rw [e, Option.bind_some]
  exact okk_b (bent_ok hc hs) fun y h => ⟨_, rfl, h⟩
end Go.Proofs.Ytjfgddmngnkfdaa
