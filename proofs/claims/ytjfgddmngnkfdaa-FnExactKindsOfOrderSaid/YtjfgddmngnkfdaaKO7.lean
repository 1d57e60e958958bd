/- When an order is good: the reference and the program say the same. No conditions. -/
import Derived.Test.YtjfgddmngnkfdaaKO6
namespace Go.Proofs.Ytjfgddmngnkfdaa
open Go.Vai

theorem evB_iff (i : Nat) : evB i = (i % 2 == 0) := by
  unfold evB
  rw [Int.tmod_eq_emod_of_nonneg (by omega)]
  rw [show ((i : Int) % 2) = ((i % 2 : Nat) : Int) by omega]
  exact beq_nat (k := 0)

def sg (i : Nat) (x : Int) : Int := cond (i % 2 == 0) x (-x)

theorem plc_head (i : Nat) (a x : Int) (r : List Int) : (plc i a (x :: r)).getD 0 0 = a := rfl

theorem plc_next {i m : Nat} {a x : Int} (hx : inr16 x = true) (h0 : -(16 * (m : Int)) ≤ a) (h1 : a ≤ 16 * (m : Int)) (hm : m ≤ 1000) :
    cond ((Int.tmod (i : Int) 2) == 0) (IntKind.wrap .i64 (a + x)) (IntKind.wrap .i64 (a - x)) = a + sg i x := by
  have hx' := inr16_iff hx
  have := evB_iff i
  unfold evB at this
  rw [this, wrap_id (n := a + x) (by omega) (by omega), wrap_id (n := a - x) (by omega) (by omega)]
  unfold sg
  cases (i % 2 == 0)
  · simp only [cond_false]; omega
  · rfl

theorem sg_bd {i : Nat} {x : Int} (hx : inr16 x = true) : -16 ≤ sg i x ∧ sg i x ≤ 16 := by
  have hx' := inr16_iff hx
  unfold sg
  cases (i % 2 == 0) <;> simp only [cond_true, cond_false] <;> omega

theorem plc_step : ∀ (l : List Int) (i m : Nat) (a : Int), l.all inr16 = true → -(16 * (m : Int)) ≤ a → a ≤ 16 * (m : Int) → m + l.length ≤ 1000 →
    ∀ j, j + 1 < l.length → (plc i a l).getD (j + 1) 0 = (plc i a l).getD j 0 + sg (i + j) (l.getD j 0)
  | [], _, _, _, _, _, _, _, j, hj => by simp at hj
  | x :: r, i, m, a, ha, h0, h1, hm, j, hj => by
    simp only [List.all_cons, Bool.and_eq_true] at ha
    simp only [List.length_cons] at hm hj
    have hs := sg_bd (i := i) ha.1
    have hn := plc_next (i := i) ha.1 h0 h1 (by omega)
    simp only [plc, hn]
    cases j with
    | zero =>
      cases r with
      | nil => simp at hj
      | cons y r => rfl
    | succ j =>
      have IH := plc_step r (i + 1) (m + 1) (a + sg i x) ha.2 (by omega) (by omega) (by omega) j (by omega)
      simp only [List.getD_cons_succ]
      rw [IH, show i + 1 + j = i + (j + 1) by omega]

theorem plc_end : ∀ (l : List Int) (i m : Nat) (a : Int), l.all inr16 = true → -(16 * (m : Int)) ≤ a → a ≤ 16 * (m : Int) → m + l.length ≤ 1000 → 1 ≤ l.length →
    (plc i a l).getD (l.length - 1) 0 + sg (i + (l.length - 1)) (l.getD (l.length - 1) 0) = a + 2 * evs i l - tot l
  | [], _, _, _, _, _, _, _, h => by simp at h
  | x :: r, i, m, a, ha, h0, h1, hm, _ => by
    simp only [List.all_cons, Bool.and_eq_true] at ha
    simp only [List.length_cons] at hm
    have hs := sg_bd (i := i) ha.1
    have hn := plc_next (i := i) ha.1 h0 h1 (by omega)
    have hev : evs i (x :: r) = cond (i % 2 == 0) x 0 + evs (i + 1) r := by
      have := evB_iff i
      unfold evB at this
      simp only [evs, this]
    simp only [plc, hn, hev, tot]
    cases r with
    | nil =>
      simp only [List.length_cons, List.length_nil, evs, tot, Nat.zero_add, Nat.sub_self, List.getD_cons_zero, Nat.add_zero]
      unfold sg
      cases (i % 2 == 0) <;> simp only [cond_true, cond_false] <;> omega
    | cons y r =>
      have IH := plc_end (y :: r) (i + 1) (m + 1) (a + sg i x) ha.2 (by omega) (by omega) (by simp only [List.length_cons] at hm ⊢; omega) (by simp)
      simp only [List.length_cons, Nat.add_sub_cancel] at IH ⊢
      simp only [List.getD_cons_succ]
      rw [show i + (r.length + 1) = i + 1 + r.length by omega, IH]
      unfold sg
      cases (i % 2 == 0) <;> simp only [cond_true, cond_false] <;> omega

theorem okC_inv {L : List Int} (h : okC L = true) : 2 ≤ L.length ∧ L.length ≤ 16 ∧ L.length % 2 = 0 ∧ L.all inr16 = true ∧ 2 * evs 0 L = tot L := by
  simp only [okC, Bool.and_eq_true, decide_eq_true_eq] at h
  obtain ⟨⟨⟨⟨⟨h1, h2⟩, h3⟩, h4⟩, _⟩, h6⟩ := h
  exact ⟨h1, h2, h3, h4, h6⟩

theorem lo_par {L : List Int} (h : okC L = true) {x : Nat} (hx : x < L.length) : (loAt L.length (plc 0 0 L) (pvI L.length x) == xAt (plc 0 0 L) x) = evB x := by
  obtain ⟨h1, h2, h3, h4, h5⟩ := okC_inv h
  have gpos : ∀ j, j < L.length → 1 ≤ L.getD j 0 := by
    intro j hj
    have : L.getD j 0 ∈ L := by
      rw [List.getD_eq_getElem?_getD, List.getElem?_eq_getElem hj]
      exact List.getElem_mem hj
    exact (inr16_iff (List.all_eq_true.1 h4 _ this)).1
  rw [evB_iff]
  unfold loAt xAt pvI nxI
  cases x with
  | zero =>
    have e1 : (0 + L.length - 1) % L.length = L.length - 1 := by rw [Nat.zero_add]; exact Nat.mod_eq_of_lt (by omega)
    have e2 : (L.length - 1 + 1) % L.length = 0 := by rw [Nat.sub_add_cancel (by omega), Nat.mod_self]
    rw [e1, e2]
    have e0 : (plc 0 0 L).getD 0 0 = 0 := by
      cases L with
      | nil => simp at h1
      | cons y r => rfl
    have he := plc_end L 0 0 0 h4 (by omega) (by omega) (by omega) (by omega)
    have hg := gpos (L.length - 1) (by omega)
    have hs : sg (0 + (L.length - 1)) (L.getD (L.length - 1) 0) = -(L.getD (L.length - 1) 0) := by
      unfold sg
      rw [show ((0 + (L.length - 1)) % 2 == 0) = false by rw [beq_eq_false_iff_ne]; omega]; rfl
    rw [hs] at he
    rw [e0, Int.min_eq_right (by omega)]
    rfl
  | succ j =>
    have e1 : (j + 1 + L.length - 1) % L.length = j := by
      rw [show j + 1 + L.length - 1 = j + L.length by omega, Nat.add_mod_right, Nat.mod_eq_of_lt (by omega)]
    have e2 : (j + 1) % L.length = j + 1 := Nat.mod_eq_of_lt hx
    rw [e1, e2]
    have hst := plc_step L 0 0 0 h4 (by omega) (by omega) (by omega) j hx
    have hg := gpos j (by omega)
    rw [Nat.zero_add] at hst
    unfold sg at hst
    by_cases hp : j % 2 = 0
    · rw [show (j % 2 == 0) = true by simp [hp], cond_true] at hst
      rw [hst, Int.min_eq_left (by omega), show ((j + 1) % 2 == 0) = false by rw [beq_eq_false_iff_ne]; omega, beq_eq_false_iff_ne]
      omega
    · rw [show (j % 2 == 0) = false by rw [beq_eq_false_iff_ne]; omega, cond_false] at hst
      rw [hst, Int.min_eq_right (by omega), show ((j + 1) % 2 == 0) = true by rw [beq_iff_eq]; omega, beq_self_eq_true]

section
variable {n : Nat} {X O K : List Int}

theorem form_inv (h : formB n X O = true) {i k : Nat} (hi : i < n) (hk : k < n) : (aAt n O i k = -1 ∨ aAt n O i k = 0 ∨ aAt n O i k = 1) ∧ aAt n O k i = -aAt n O i k ∧ ((aAt n O i k != 0) = ov n X i k) := by
  have key : ∀ i k, i < n → k < n → foB n X O i k = true := fun i k hi hk => List.all_eq_true.1 (List.all_eq_true.1 h i (by simpa using hi)) k (by simpa using hk)
  have h1 := key i k hi hk
  have h2 := key k i hk hi
  simp only [foB, Bool.and_eq_true, decide_eq_true_eq, beq_iff_eq] at h1 h2
  obtain ⟨⟨a1, a2⟩, a3, a4⟩ := h1
  obtain ⟨⟨b1, b2⟩, _, _⟩ := h2
  rw [wrap_id (by omega) (by omega)] at a3
  exact ⟨by omega, by omega, a4⟩

theorem ib_eq (h : formB n X O = true) {s a b : Nat} (hs : s < n) (ha : a < n) (hb : b < n) : ibA n O s a b = cond (btB n O s a b) 1 (cond (ouB n O s a b) (-1) 0) ∧ (btB n O s a b && ouB n O s a b) = false := by
  obtain ⟨h1, h2, _⟩ := form_inv h hs ha
  obtain ⟨h3, h4, _⟩ := form_inv h hs hb
  unfold ibA btB ouB
  rw [h2, h4]
  generalize aAt n O s a = p at *
  generalize aAt n O s b = q at *
  rcases h1 with rfl | rfl | rfl <;> rcases h3 with rfl | rfl | rfl <;> decide

theorem ti_eq (h : formB n X O = true) (hn : 1 ≤ n) {s i : Nat} (hs : s < n) (hi : i < n) : tiB n X O s i = thB n X O i s := by
  unfold tiB thB
  rw [(ib_eq h hs (pv_lt hn i) hi).1]
  cases btB n O s (pvI n i) i
  · cases ouB n O s (pvI n i) i <;> rfl
  · rfl

theorem pr_eq (h : formB n X O = true) {s t a b : Nat} (hs : s < n) (ht : t < n) (ha : a < n) (hb : b < n) : decide (IntKind.wrap .i64 (ibA n O s a b * ibA n O t a b) < 0) = ((btB n O s a b && ouB n O t a b) || (ouB n O s a b && btB n O t a b)) := by
  obtain ⟨e1, d1⟩ := ib_eq h hs ha hb
  obtain ⟨e2, d2⟩ := ib_eq h ht ha hb
  rw [e1, e2]
  cases h1 : btB n O s a b <;> cases h2 : ouB n O s a b <;> cases h3 : btB n O t a b <;> cases h4 : ouB n O t a b <;> rw [h1, h2] at d1 <;> rw [h3, h4] at d2 <;> first | (cases d1; done) | (cases d2; done) | rfl

theorem wi_eq (h : formB n X O = true) (hn : 1 ≤ n) (hp : ∀ x, x < n → (loAt n X (pvI n x) == xAt X x) = evB x) {x y : Nat} (hx : x < n) (hy : y < n) : wiB n X O x y = (wvB n X O x y || wvB n X O y x) := by
  unfold wiB wvB
  rw [hp x hx, hp y hy, pr_eq h (pv_lt hn y) hy (pv_lt hn x) hx, pr_eq h (pv_lt hn x) hx (pv_lt hn y) hy, Bool.beq_comm (a := xAt X y), Bool.beq_comm (a := evB y)]
  cases (xAt X x == xAt X y) <;> cases (evB x == evB y) <;> rfl

theorem cy_eq (h : formB n X O = true) {i k m : Nat} (hi : i < n) (hk : k < n) (hm : m < n) : cyB n X O i k m = ciB n X O i k m := by
  obtain ⟨h1, h2, _⟩ := form_inv h hi hk
  obtain ⟨h3, h4, _⟩ := form_inv h hk hm
  obtain ⟨h5, h6, _⟩ := form_inv h hm hi
  unfold cyB ciB
  rw [h2, h4, h6]
  generalize aAt n O i k = p at *
  generalize aAt n O k m = q at *
  generalize aAt n O m i = r at *
  cases ov3 n X i k m <;> rcases h1 with rfl | rfl | rfl <;> rcases h3 with rfl | rfl | rfl <;> rcases h5 with rfl | rfl | rfl <;> decide

theorem ko_eq (h : formB n X O = true) (hn : 1 ≤ n) {i : Nat} (hi : i < n) (hK : kAt K i = 2 ∨ kAt K i = 3 ∨ kAt K i = 4) : koB n O K i = !(wrB n O K i) := by
  obtain ⟨h1, h2, _⟩ := form_inv h (pv_lt hn i) hi
  have ho : (Int.tmod (i : Int) 2 == 1) = !(Int.tmod (i : Int) 2 == 0) := by
    rw [Int.tmod_eq_emod_of_nonneg (by omega)]
    rcases (show (i : Int) % 2 = 0 ∨ (i : Int) % 2 = 1 by omega) with e | e <;> rw [e] <;> rfl
  unfold koB wrB kiA
  rw [ho, h2]
  generalize aAt n O (pvI n i) i = p at *
  generalize kAt K i = q at *
  cases (Int.tmod (i : Int) 2 == 0) <;> rcases h1 with rfl | rfl | rfl <;> rcases hK with rfl | rfl | rfl <;> decide

theorem ci_sym {i k j : Nat} (h : ciB n X O i k j = true) : ciB n X O k i j = true := by
  simp only [ciB, ov3, Bool.and_eq_true, Bool.or_eq_true, decide_eq_true_eq] at h ⊢
  obtain ⟨h1, h2⟩ := h
  exact ⟨by omega, h2.symm⟩

theorem ci_ov (h : formB n X O = true) {i k j : Nat} (hi : i < n) (hk : k < n) (hc : ciB n X O i k j = true) : ov n X i k = true := by
  obtain ⟨h1, h2, h3⟩ := form_inv h hi hk
  rw [← h3]
  simp only [ciB, Bool.and_eq_true, Bool.or_eq_true, beq_iff_eq] at hc
  rw [bne_iff_ne]
  rcases hc.2 with h4 | h4
  · omega
  · omega

theorem good_eq (h : formB n X O = true) (hn : 1 ≤ n) (hp : ∀ x, x < n → (loAt n X (pvI n x) == xAt X x) = evB x) (hK : ∀ i, i < n → kAt K i = 2 ∨ kAt K i = 3 ∨ kAt K i = 4) : gdI n X O K = gdS n X O K := by
  rw [Bool.eq_iff_iff]
  have hR : ∀ (m : Nat) (P : Nat → Bool), ((List.range m).all P = true) ↔ ∀ i, i < m → P i = true := by
    intro m P
    simp [List.all_eq_true]
  unfold gdI gdS
  rw [hR, hR]
  constructor
  · intro H i hi
    have Hi := H i hi
    rw [Bool.and_eq_true, hR, ko_eq h hn hi (hK i hi)] at Hi
    obtain ⟨h1, h2⟩ := Hi
    rw [Bool.and_eq_true, Bool.and_eq_true]
    refine ⟨(hR _ _).2 fun k hk => ?_, h1, (hR _ _).2 fun k hk => ?_⟩
    · have hki := H k hk
      rw [Bool.and_eq_true, hR] at hki
      have t1 := hki.2 i hi
      rw [Bool.and_eq_true, Bool.and_eq_true, ti_eq h hn hk hi, wi_eq h hn hp hk hi] at t1
      rw [Bool.and_eq_true]
      refine ⟨t1.1, ?_⟩
      have t2 := t1.2.1
      cases hik : (k == i)
      · rw [hik] at t2
        cases hw : wvB n X O i k
        · rfl
        · rw [hw] at t2; simp at t2
      · rfl
    · have hkn : k < n := by omega
      have t1 := h2 k hkn
      rw [Bool.and_eq_true, Bool.and_eq_true, hR] at t1
      have : cicB n X O i k = true := (hR _ _).2 fun j hj => by rw [← cy_eq h hi hkn hj]; exact t1.2.2 j hj
      rw [this]; simp
  · intro H i hi
    have Hi := H i hi
    rw [Bool.and_eq_true, Bool.and_eq_true] at Hi
    obtain ⟨h1, h2, h3⟩ := Hi
    rw [Bool.and_eq_true, hR, ko_eq h hn hi (hK i hi)]
    have noci : ∀ a b j, a < n → b < n → j < n → b < a → ciB n X O a b j = false := by
      intro a b j ha hb hj hba
      have Ha := H a ha
      rw [Bool.and_eq_true, Bool.and_eq_true, hR] at Ha
      have t := Ha.2.2 b hba
      cases hc : ciB n X O a b j with
      | false => rfl
      | true =>
        exfalso
        rw [ci_ov h ha hb hc, Bool.true_and, Bool.not_not] at t
        have t' := (hR _ _).1 t j hj
        rw [hc] at t'; cases t'
    refine ⟨h2, fun k hk => ?_⟩
    have Hk := H k hk
    rw [Bool.and_eq_true, Bool.and_eq_true] at Hk
    have c1 := (hR _ _).1 h1 k hk
    have c2 := (hR _ _).1 Hk.1 i hi
    rw [Bool.and_eq_true] at c1 c2
    rw [Bool.and_eq_true, Bool.and_eq_true, hR, ti_eq h hn hi hk, wi_eq h hn hp hi hk]
    refine ⟨c2.1, ?_, fun m hm => ?_⟩
    · have d1 := c1.2
      have d2 := c2.2
      cases hik : (i == k)
      · have hki : (k == i) = false := by rw [beq_eq_false_iff_ne] at hik ⊢; exact fun e => hik e.symm
        rw [hki] at d1
        rw [hik] at d2
        simp only [Bool.false_or, Bool.not_eq_true'] at d1 d2
        rw [d1, d2]; rfl
      · rfl
    · rw [cy_eq h hi hk hm]
      rcases Nat.lt_trichotomy i k with hlt | rfl | hlt
      · cases hc : ciB n X O i k m with
        | false => rfl
        | true =>
          have := noci k i m hk hi hm hlt
          rw [ci_sym hc] at this; cases this
      · cases hc : ciB n X O i i m with
        | false => rfl
        | true =>
          exfalso
          have := ci_ov h hi hi hc
          simp [ov] at this
      · rw [noci i k m hi hk hm hlt]; rfl
end
end Go.Proofs.Ytjfgddmngnkfdaa
