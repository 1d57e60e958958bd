/- The law's text. No conditions. -/
import Derived.Test.YtpabholjoblkbaaCL4
namespace Go.Proofs.Ytpabholjoblkbaa
open Go.Vai
/-! each number once -/
def inB (n : Nat) (x : Int) : Bool := decide (x ≥ 0) && decide (x ≤ (n : Int) - 1)
def seenL (n : Nat) (p : List Int) : List Bool := (List.range n).map fun (j : Nat) => decide (((j : Nat) : Int) ∈ p)
def goodR (n : Nat) : List Int → List Int → Bool
  | _, [] => true
  | p, x :: r => inB n x && (!decide (x ∈ p) && goodR n (p ++ [x]) r)

theorem seen_at {n : Nat} {p : List Int} {x : Int} (h : inB n x = true) : idx (seenL n p) x = some (decide (x ∈ p)) := by
  simp only [inB, Bool.and_eq_true, decide_eq_true_eq] at h
  obtain ⟨k, rfl⟩ := Int.eq_ofNat_of_zero_le h.1
  rw [idx_nat, seenL, List.getElem?_map, List.getElem?_range (by omega)]
  rfl
theorem seen_set {n : Nat} {p : List Int} {x : Int} (h : inB n x = true) : List.set (seenL n p) (0 + Int.toNat x) true = seenL n (p ++ [x]) := by
  simp only [inB, Bool.and_eq_true, decide_eq_true_eq] at h
  obtain ⟨k, rfl⟩ := Int.eq_ofNat_of_zero_le h.1
  apply List.ext_getElem?
  intro j
  rw [Int.toNat_natCast, Nat.zero_add]
  simp only [seenL, List.getElem?_set, List.getElem?_map, List.length_map, List.length_range]
  by_cases hj : j < n
  · rw [List.getElem?_range hj]
    by_cases hk : k = j
    · subst hk; simp [hj]
    · have : ¬ ((j : Int) = (k : Int)) := by omega
      simp [hk, this]
  · rw [List.getElem?_eq_none (by simp; omega)]
    by_cases hk : k = j
    · omega
    · simp [hk]

theorem seen_loop {L K o : List Int} (ho : o.length ≤ 14) : ∀ (r p : List Int), o = p ++ r →
    w_spec_CheckLayers_7 (m_spec_CheckLayers_7 o ((o.length : Nat) : Int) (seenL o.length p) ((p.length : Nat) : Int) L K) =
      some (cond (goodR o.length p r) (.inr (.inl (d_spec_CheckLayers_7_1 o L K))) (.inl (d_spec_CheckLayers_7_0 o false L K)))
  | [], p, h => by
    rw [wq_spec_CheckLayers_7, u_spec_CheckLayers_7, lt_end h, cond_false]; rfl
  | x :: r, p, h => by
    have hp := len_in h
    rw [wq_spec_CheckLayers_7, u_spec_CheckLayers_7, lt_in h, cond_true, ix h, wrap_id (n := ((o.length : Nat) : Int) - 1) (by omega) (by omega), wr h (by omega)]
    simp only [Option.bind_some, hwS]
    show cond (!inB o.length x) _ _ = _
    unfold goodR
    cases hx : inB o.length x
    · rfl
    · rw [seen_at hx, Bool.not_true, cond_false, Option.bind_some, Bool.true_and]
      by_cases hm : x ∈ p
      · rw [dec_t hm]; rfl
      · rw [dec_f hm, cond_false, Bool.not_false, Bool.true_and, Option.bind_some, seen_set hx]
        exact seen_loop ho r (p ++ [x]) (nxt h)

/-! sorted -/
def iota : Int → Nat → List Int
  | _, 0 => []
  | a, n + 1 => a :: iota (a + 1) n
theorem iota_length : ∀ n a, (iota a n).length = n
  | 0, _ => rfl
  | n + 1, a => by simp [iota, iota_length n]
theorem iota_mem : ∀ n a x, x ∈ iota a n ↔ a ≤ x ∧ x < a + n
  | 0, a, x => by simp [iota]
  | n + 1, a, x => by
    simp only [iota, List.mem_cons, iota_mem n]; omega
theorem iota_nodup : ∀ n a, (iota a n).Nodup
  | 0, _ => List.nodup_nil
  | n + 1, a => by
    simp only [iota, List.nodup_cons, iota_mem]
    exact ⟨by omega, iota_nodup n _⟩

theorem inc_len : ∀ (s : List Int) (a b : Int), s.Pairwise (· < ·) → (∀ x, x ∈ s → a ≤ x ∧ x < b) → a ≤ b → (s.length : Int) ≤ b - a
  | [], a, b, _, _, h => by simp; omega
  | x :: r, a, b, hp, hm, h => by
    have hx := hm x (by simp)
    rw [List.pairwise_cons] at hp
    have := inc_len r (x + 1) b hp.2 (fun y hy => ⟨hp.1 y hy, (hm y (by simp [hy])).2⟩) (by omega)
    simp only [List.length_cons]; omega

theorem inc_iota : ∀ (s : List Int) (a : Int), s.Pairwise (· < ·) → (∀ x, x ∈ s → a ≤ x ∧ x < a + s.length) → s = iota a s.length
  | [], a, _, _ => rfl
  | x :: r, a, hp, hm => by
    have hx := hm x (by simp)
    rw [List.pairwise_cons] at hp
    simp only [List.length_cons] at hm hx ⊢
    have h1 := inc_len r (x + 1) (a + (r.length + 1 : Nat)) hp.2 (fun y hy => ⟨hp.1 y hy, (hm y (by simp [hy])).2⟩) (by omega)
    have hxa : x = a := by omega
    subst hxa
    rw [iota, ← inc_iota r (x + 1) hp.2 (fun y hy => ⟨hp.1 y hy, by have := (hm y (by simp [hy])).2; omega⟩)]

def srtd (l : List Int) : List Int := l.mergeSort fun x y => decide (x ≤ y)
theorem srtd_perm (l : List Int) : (srtd l).Perm l := List.mergeSort_perm _ _
theorem srtd_le (l : List Int) : (srtd l).Pairwise (· ≤ ·) := by
  have := List.pairwise_mergeSort (le := fun x y : Int => decide (x ≤ y)) (by intro a b c h1 h2; simp at *; omega) (by intro a b; simp; omega) l
  exact this.imp (by intro a b h; simpa using h)

theorem srtd_iff (l : List Int) : srtd l = iota 0 l.length ↔ l.Nodup ∧ ∀ x, x ∈ l → inB l.length x = true := by
  constructor
  · intro h
    have hp := srtd_perm l
    rw [h] at hp
    refine ⟨hp.nodup_iff.1 (iota_nodup _ _), fun x hx => ?_⟩
    have := (iota_mem l.length 0 x).1 (hp.mem_iff.2 hx)
    simp only [inB, Bool.and_eq_true, decide_eq_true_eq]; omega
  · rintro ⟨h1, h2⟩
    have hp := srtd_perm l
    have hl : (srtd l).length = l.length := hp.length_eq
    have hn : (srtd l).Nodup := hp.nodup_iff.2 h1
    have hlt : (srtd l).Pairwise (· < ·) := by
      refine ((srtd_le l).and hn).imp ?_
      intro a b h; omega
    rw [← hl]
    refine inc_iota _ 0 hlt fun x hx => ?_
    have := h2 x (hp.mem_iff.1 hx)
    simp only [inB, Bool.and_eq_true, decide_eq_true_eq] at this
    omega

theorem good_iff (n : Nat) : ∀ (r p : List Int), goodR n p r = true ↔ (∀ x, x ∈ r → inB n x = true) ∧ r.Nodup ∧ ∀ x, x ∈ r → ¬ x ∈ p
  | [], p => by simp [goodR]
  | x :: r, p => by
    simp only [goodR, Bool.and_eq_true, good_iff n r, List.mem_cons, List.nodup_cons, Bool.not_eq_true', decide_eq_false_iff_not, List.mem_append]
    constructor
    · rintro ⟨h1, h2, h3, h4, h5⟩
      refine ⟨fun y hy => hy.elim (fun e => e ▸ h1) (h3 y), ⟨fun hx => h5 x hx (.inr (.inl rfl)), h4⟩, fun y hy => hy.elim (fun e => e ▸ h2) (fun hy hp => h5 y hy (.inl hp))⟩
    · rintro ⟨h1, ⟨h2, h3⟩, h4⟩
      refine ⟨h1 x (.inl rfl), h4 x (.inl rfl), fun y hy => h1 y (.inr hy), h3, fun y hy hp => ?_⟩
      rcases hp with hp | hp
      · exact h4 y (.inr hy) hp
      · rcases hp with hp | hp
        · subst hp; exact h2 hy
        · cases hp

def permB (o : List Int) (n : Nat) : Bool := decide (o.length = n) && goodR n [] o

theorem sorted_loop (l : List Int) (x1 : Int) (hl : l.length ≤ 1048576) : ∀ (r p : List Int), l = p ++ r →
    w_impl_isPermutation_5 (m_impl_isPermutation_5 x1 l l ((l.length : Nat) : Int) ((p.length : Nat) : Int)) =
      some (cond (decide (r = iota p.length r.length)) (.inr (.inl (d_impl_isPermutation_5_1 x1 l))) (.inl (d_impl_isPermutation_5_0 x1 false l)))
  | [], p, h => by
    rw [wq_impl_isPermutation_5, u_impl_isPermutation_5, lt_end h, cond_false]; rfl
  | x :: r, p, h => by
    have hp := len_in h
    rw [wq_impl_isPermutation_5, u_impl_isPermutation_5, lt_in h, cond_true, ix h, Option.bind_some, wr h (by omega), bne_int]
    simp only [List.length_cons, iota, List.cons.injEq]
    by_cases hx : x = ((p.length : Nat) : Int)
    · rw [dec_t hx, Bool.not_true, cond_false]
      have IH := sorted_loop l x1 hl r (p ++ [x]) (nxt h)
      rw [List.length_append, List.length_singleton] at IH
      have e : ((p.length + 1 : Nat) : Int) = (p.length : Int) + 1 := by omega
      rw [e] at IH
      rw [List.length_append, List.length_singleton, e]
      refine IH.trans ?_
      by_cases hr : r = iota ((p.length : Int) + 1) r.length
      · rw [dec_t hr, dec_t ⟨hx, hr⟩]
      · rw [dec_f hr, dec_f (fun e => hr e.2)]
    · rw [dec_f hx, Bool.not_false, cond_true, dec_f (fun e => hx e.1)]; rfl

theorem perm_impl (o : List Int) (n : Nat) (ho : o.length ≤ 1048576) (hn : n ≤ 1048576) : g_impl_isPermutation o (n : Int) = some (permB o n) := by
  have hc : g_slices_Clone_Sint64_int64 o = some o := by
    rw [g_slices_Clone_Sint64_int64, dec_t (by omega)]; rfl
  have hs : g_slices_Sort_Sint64_int64 o = some (srtd o) := by
    rw [g_slices_Sort_Sint64_int64]
    by_cases h : 0 < o.length
    · rw [dec_t h, cond_true, srt, dec_t h, dec_t (by omega)]; rfl
    · rw [dec_f h, cond_false]
      have : o = [] := List.length_eq_zero_iff.1 (by omega)
      subst this; simp [srtd]
  have hl : (srtd o).length = o.length := (srtd_perm o).length_eq
  rw [g_impl_isPermutation, t_impl_isPermutation, hc, Option.bind_some, dec_t rfl, cond_true, hs, Option.bind_some]
  have h := sorted_loop (srtd o) (n : Int) (by omega) (srtd o) [] rfl
  have h' : w_impl_isPermutation_5 (m_impl_isPermutation_5 (n : Int) (srtd o) (srtd o) (((srtd o).length : Nat) : Int) 0) = _ := h
  rw [h']
  simp only [List.length_nil, hl]
  have hb : decide (srtd o = iota ((0 : Nat) : Int) o.length) = goodR o.length [] o := by
    rw [Bool.eq_iff_iff, decide_eq_true_eq, good_iff]
    refine (srtd_iff o).trans ?_
    simp only [List.not_mem_nil, not_false_eq_true, implies_true, and_true]
    exact And.comm
  rw [hb]
  unfold permB
  by_cases he : o.length = n
  · subst he
    rw [dec_t rfl, Bool.true_and]
    cases goodR o.length [] o
    · rfl
    · rw [cond_true, Option.bind_some]
      show some (((((srtd o).length : Nat) : Int)) == ((o.length : Nat) : Int)) = _
      rw [hl, beq_self_eq_true]
  · rw [dec_f he, Bool.false_and]
    cases goodR o.length [] o
    · rfl
    · rw [cond_true, Option.bind_some]
      show some (((((srtd o).length : Nat) : Int)) == ((n : Nat) : Int)) = _
      rw [hl, show (((o.length : Nat) : Int) == ((n : Nat) : Int)) = false by simp; omega]

/-! the strip as a law's input -/
theorem szStrip_ok (a : List Int × List Int) (ha : a.1.length ≤ 9223372036854775807) (hb : a.2.length ≤ 9223372036854775807) : ∃ y, g_laws_szStrip a 1048576 = some y ∧ (y < 0 ∨ (a.1.length ≤ 1048576 ∧ a.2.length ≤ 1048576 ∧ y = 1048576 - a.1.length - a.2.length)) := by
  rw [g_laws_szStrip, t_laws_szStrip, sz_ok _ ha _ (by omega) (by omega), Option.bind_some]
  by_cases h1 : (1048576 : Int) < a.1.length
  · rw [if_pos h1]; exact ⟨-1, rfl, .inl (by omega)⟩
  · rw [if_neg h1, dec_f (by omega), cond_false, sz_ok _ hb _ (by omega) (by omega), Option.bind_some]
    by_cases h2 : (1048576 : Int) - a.1.length < a.2.length
    · rw [if_pos h2]; exact ⟨-1, rfl, .inl (by omega)⟩
    · rw [if_neg h2, dec_f (by omega), cond_false]; exact ⟨_, rfl, .inr ⟨by omega, by omega, rfl⟩⟩
theorem toStrip_ok (a : List Int × List Int) (h1 : a.1.length ≤ 1048576) (h2 : a.2.length ≤ 1048576) : g_laws_toStrip a = some a := by
  rw [g_laws_toStrip, t_laws_toStrip, to_Int64S _ h1, Option.bind_some, to_Int64S _ h2]; rfl
theorem eqStrip_ok (a : List Int × List Int) (h1 : a.1.length ≤ 1048576) (h2 : a.2.length ≤ 1048576) : g_laws_eqStrip a a = some true := by
  rw [g_laws_eqStrip, t_laws_eqStrip, eq_Int64S _ _ (by omega), Option.bind_some, eq_Int64S _ _ (by omega)]
  simp

def chkL (a : List Int × List Int) (o : List Int) : Bool := okS a && (permB o a.1.length && layB a.2 (0 :: pls 0 0 a.1) o)

theorem okS_inv {a : List Int × List Int} (h : okS a = true) : 1 ≤ a.1.length ∧ a.1.length ≤ 14 ∧ a.2.length + 1 = a.1.length ∧ a.1.all P1 = true := by
  simp only [okS, szs, Bool.and_eq_true, decide_eq_true_eq] at h
  exact ⟨by omega, by omega, by omega, h.1.2.1⟩

theorem impl_layers (a : List Int × List Int) (o : List Int) (h1 : a.1.length ≤ 1048576) (h2 : a.2.length ≤ 1048576) (h3 : o.length ≤ 1048576) : g_impl_CheckLayers a o = some (chkL a o) := by
  rw [g_impl_CheckLayers, t_impl_CheckLayers, impl_ok a h1 h2, Option.bind_some]
  unfold chkL
  cases h : okS a
  · rfl
  · obtain ⟨k1, k2, k3, k4⟩ := okS_inv h
    rw [cond_true, Bool.true_and, perm_impl o a.1.length h3 h1, Option.bind_some]
    cases hp : permB o a.1.length
    · rfl
    · have hl : o.length = a.1.length := by
        simp only [permB, Bool.and_eq_true, decide_eq_true_eq] at hp; exact hp.1
      have := layers_impl (L := a.1) (K := a.2) (o := o) hl.symm (by omega) (by omega) k4
      rw [cond_true, this, fold_lay]; rfl

theorem spec_layers (a : List Int × List Int) (o : List Int) (h1 : a.1.length ≤ 1048576) (h2 : a.2.length ≤ 1048576) (h3 : o.length ≤ 1048576) : g_spec_CheckLayers a o = some (chkL a o) := by
  rw [g_spec_CheckLayers, t_spec_CheckLayers, spec_ok a h1 h2, Option.bind_some, bne_int]
  unfold chkL permB
  cases h : okS a
  · rfl
  · obtain ⟨k1, k2, k3, k4⟩ := okS_inv h
    rw [Bool.not_true, cond_false, Bool.true_and]
    by_cases hl : o.length = a.1.length
    · rw [dec_t (show ((o.length : Nat) : Int) = ((a.1.length : Nat) : Int) by rw [hl]), Bool.not_true, cond_false, dec_t (by omega), dec_t (by omega), dec_t (by omega), cond_true, cond_true, cond_true, dec_t hl, Bool.true_and, Int.toNat_natCast]
      have hs : List.replicate a.1.length false = seenL o.length [] := by
        rw [← hl]
        apply List.ext_getElem?
        intro j
        simp only [seenL, List.not_mem_nil, decide_false, List.getElem?_map]
        by_cases hj : j < o.length
        · rw [List.getElem?_range hj, List.getElem?_replicate_of_lt hj]; rfl
        · rw [List.getElem?_eq_none (by simp; omega), List.getElem?_eq_none (by simp; omega)]; rfl
      have hw := seen_loop (L := a.1) (K := a.2) (o := o) (by omega) o [] rfl
      rw [hs, ← hl]
      have hw' : w_spec_CheckLayers_7 (m_spec_CheckLayers_7 o ((o.length : Nat) : Int) (seenL o.length []) 0 a.1 a.2) = _ := hw
      rw [hw']
      cases hg : goodR o.length [] o
      · rfl
      · rw [cond_true, Option.bind_some, Bool.true_and]
        have hn : ∀ i, i < a.2.length → o.getD i 0 ≠ o.getD (i + 1) 0 := by
          intro i hi he
          have hnd := ((good_iff o.length o []).1 hg).2.1
          have k1' : i < o.length := by omega
          have k2' : i + 1 < o.length := by omega
          rw [List.getD_eq_getElem?_getD, List.getD_eq_getElem?_getD, List.getElem?_eq_getElem k1', List.getElem?_eq_getElem k2'] at he
          exact (List.pairwise_iff_getElem.1 hnd) i (i + 1) k1' k2' (by omega) (by simpa using he)
        have := layers_spec (L := a.1) (K := a.2) (o := o) hl.symm (by omega) (by omega) hn
        show Option.bind (g_spec_l25Layers (a.1, a.2) o) _ = _
        rw [this]; rfl
    · rw [dec_f (show ¬ ((o.length : Nat) : Int) = ((a.1.length : Nat) : Int) by omega), dec_f hl]; rfl

theorem law_CheckLayers (a : List Int × List Int) (o : List Int) (ha : a.1.length ≤ 9223372036854775807) (hb : a.2.length ≤ 9223372036854775807) (ho : o.length ≤ 9223372036854775807) : g_laws_FnExactCheckLayers a o = some true := by
  rw [g_laws_FnExactCheckLayers, t_laws_FnExactCheckLayers]
  by_cases h : ((o.length : Nat) : Int) > 1048576
  · rw [dec_t h]; rfl
  · rw [dec_f h, cond_false]
    have h3 : o.length ≤ 1048576 := by omega
    obtain ⟨y, hy, hc⟩ := szStrip_ok a ha hb
    rw [hy, Option.bind_some]
    rcases hc with h | ⟨h1, h2, _⟩
    · rw [dec_t h]; rfl
    · by_cases hn : y < 0
      · rw [dec_t hn]; rfl
      · rw [dec_f hn, cond_false]
        simp only [toStrip_ok a h1 h2, eqStrip_ok a h1 h2, to_Int64S o h3, eq_Int64S o o (by omega), spec_layers a o h1 h2 h3, impl_layers a o h1 h2 h3, Option.bind_some, beq_self_eq_true, decide_true, Bool.not_true, cond_false]
end Go.Proofs.Ytpabholjoblkbaa
