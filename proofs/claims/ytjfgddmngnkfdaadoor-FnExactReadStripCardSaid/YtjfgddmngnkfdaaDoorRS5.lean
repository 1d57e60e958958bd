/- Texts of strips, read. No conditions. -/
import Derived.Test.YtjfgddmngnkfdaaDoorRS3
import Derived.Test.YtjfgddmngnkfdaaDoorRS4
namespace Go.Proofs.YtjfgddmngnkfdaaDoor
open Go.Vai
theorem eqStrip_ok (a : List Int × List Int) (h1 : a.1.length ≤ 1048576) (h2 : a.2.length ≤ 1048576) : g_laws_eqStrip a a = some true := by
  rw [g_laws_eqStrip, t_laws_eqStrip, eq_Int64S _ _ (by omega), Option.bind_some, eq_Int64S _ _ (by omega)]
  simp

/-! the text -/
def letter (k : Int) : UInt8 := if k = 2 then 77 else 86
def tS : List Int → List Int → List UInt8
  | [], _ => []
  | n :: r, [] => Lib.itoa n ++ tS r []
  | n :: r, k :: ks => Lib.itoa n ++ letter k :: tS r ks
def tI : List Int → List Int → List UInt8
  | [], _ => []
  | k :: ks, n :: r => letter k :: Lib.itoa n ++ tI ks r
  | k :: ks, [] => letter k :: tI ks []

theorem tS_tI : ∀ (ks r : List Int) (n : Int), r.length = ks.length → tS (n :: r) ks = Lib.itoa n ++ tI ks r
  | [], [], n, _ => by simp [tS, tI]
  | [], _ :: _, _, h => by simp at h
  | _ :: _, [], _, h => by simp at h
  | k :: ks, m :: r, n, h => by
    rw [tS, tS_tI ks r m (by simpa using h), tI]
    simp

theorem P1_dec {x : Int} (h : P1 x = true) : -100000000000000000 < x ∧ x < 100000000000000000 := by
  have := P1_iff h; omega

theorem mk_list (l : List UInt8) : (ByteArray.mk l.toArray).data.toList = l := by simp

theorem len_size (s : ByteArray) : s.size = s.data.toList.length := by
  show s.data.size = _
  exact (Array.length_toList).symm

theorem spec_loop (L K : List Int) (hL : L.length ≤ 14) (hK : K.length ≤ 14) (hP : L.all P1 = true) (h2 : K.all P2 = true) : ∀ (r p q ks : List Int) (s : ByteArray), L = p ++ r → K = q ++ ks → (q.length = p.length ∨ (ks = [] ∧ q.length ≤ p.length)) → s.size ≤ 22 * p.length →
    ∃ s', w_spec_l25Text_4 (m_spec_l25Text_4 s ((p.length : Nat) : Int) L K) = some (.inl (d_spec_l25Text_4_0 s')) ∧ s'.data.toList = s.data.toList ++ tS r ks
  | [], p, q, ks, s, h, hq, hpq, hs => by
    refine ⟨s, ?_, by simp [tS]⟩
    rw [wq_spec_l25Text_4, u_spec_l25Text_4, lt_end h, cond_false]; rfl
  | n :: r, p, q, ks, s, h, hq, hpq, hs => by
    have hp := len_in h
    have hn := P1_dec (List.all_eq_true.1 hP n (by rw [h]; simp))
    have hz := itoa_size hn.1 hn.2
    rw [wq_spec_l25Text_4, u_spec_l25Text_4, lt_in h, cond_true, ix h, Option.bind_some, spec_dec hn.1 hn.2, Option.bind_some, sz_small (by omega), cond_false, wr h (by omega)]
    have hc : (s ++ ByteArray.mk (Lib.itoa n).toArray).size ≤ 22 * p.length + 21 := by rw [app_size]; omega
    cases ks with
    | nil =>
      have hk : ¬ (((p.length : Nat) : Int) < ((K.length : Nat) : Int)) := by
        have : K.length = q.length := by rw [hq]; simp
        rcases hpq with e | e <;> omega
      rw [dec_f hk, cond_false]
      obtain ⟨s', h1, h2'⟩ := spec_loop L K hL hK hP h2 r (p ++ [n]) q [] (s ++ ByteArray.mk (Lib.itoa n).toArray) (nxt h) hq (.inr ⟨rfl, by simp; rcases hpq with e | e <;> omega⟩) (by simp; omega)
      refine ⟨s', h1, ?_⟩
      rw [h2', app_list, mk_list, tS, List.append_assoc]
    | cons k ks =>
      have hqp : q.length = p.length := hpq.resolve_right (fun e => by cases e.1)
      have hk2 := List.all_eq_true.1 h2 k (by rw [hq]; simp)
      rw [← hqp, lt_in hq, cond_true, ix hq, Option.bind_some]
      by_cases hk : k = 2
      · have hm : (ByteArray.mk (Array.mk [77])).size = 1 := rfl
        rw [show (k == 2) = true by simp [hk], cond_true, sz_small (by omega), cond_false]
        obtain ⟨s', h1, h2'⟩ := spec_loop L K hL hK hP h2 r (p ++ [n]) (q ++ [k]) ks (s ++ ByteArray.mk (Lib.itoa n).toArray ++ ByteArray.mk (Array.mk [77])) (nxt h) (nxt hq) (.inl (by simp [hqp])) (by rw [app_size]; simp; omega)
        refine ⟨s', h1, ?_⟩
        rw [h2', app_list, app_list, mk_list, tS, letter, if_pos hk]
        simp
      · have hm : (ByteArray.mk (Array.mk [86])).size = 1 := rfl
        rw [show (k == 2) = false by simp [hk], cond_false, sz_small (by omega), cond_false]
        obtain ⟨s', h1, h2'⟩ := spec_loop L K hL hK hP h2 r (p ++ [n]) (q ++ [k]) ks (s ++ ByteArray.mk (Lib.itoa n).toArray ++ ByteArray.mk (Array.mk [86])) (nxt h) (nxt hq) (.inl (by simp [hqp])) (by rw [app_size]; simp; omega)
        refine ⟨s', h1, ?_⟩
        rw [h2', app_list, app_list, mk_list, tS, letter, if_neg hk]
        simp

theorem P2_iff {x : Int} (h : P2 x = true) : x = 2 ∨ x = 3 := by
  simp only [P2, Bool.and_eq_true, decide_eq_true_eq] at h; omega

theorem impl_loop (L K : List Int) (hL : L.length ≤ 14) (hK : K.length ≤ 14) (hP : L.all P1 = true) (h2 : K.all P2 = true) : ∀ (ks q p r : List Int) (s : ByteArray), K = q ++ ks → L = p ++ r → p.length = q.length + 1 → r.length = ks.length → s.size ≤ 22 * p.length →
    ∃ s', w_impl_stripText_4 (m_impl_stripText_4 s K ((K.length : Nat) : Int) ((q.length : Nat) : Int) L K) = some (.inl (d_impl_stripText_4_0 s')) ∧ s'.data.toList = s.data.toList ++ tI ks r
  | [], q, p, r, s, hq, h, hpq, hr, hs => by
    refine ⟨s, ?_, by simp [tI]⟩
    rw [wq_impl_stripText_4, u_impl_stripText_4, lt_end hq, cond_false]; rfl
  | k :: ks, q, p, [], s, hq, h, hpq, hr, hs => by simp at hr
  | k :: ks, q, p, n :: r, s, hq, h, hpq, hr, hs => by
    have hp := len_in h
    have hn := P1_dec (List.all_eq_true.1 hP n (by rw [h]; simp))
    have hz := itoa_size hn.1 hn.2
    have hk2 := P2_iff (List.all_eq_true.1 h2 k (by rw [hq]; simp))
    have hi : idx L ((((q ++ [k]).length : Nat)) : Int) = some n := by
      rw [show (q ++ [k]).length = p.length by simp [hpq]]; exact ix h
    have hb : (ByteArray.mk (Array.mk [66, 77, 86, 79])).size = 4 := rfl
    rw [wq_impl_stripText_4, u_impl_stripText_4, lt_in hq, cond_true, ix hq, Option.bind_some, wr hq (by omega), hi, hb, wrap_id (n := k - 1) (by omega) (by omega), dec_t (by omega), dec_t (by omega), dec_t (by omega), cond_true, cond_true, cond_true, Option.bind_some, impl_dec hn.1 hn.2, Option.bind_some]
    have he : ByteArray.extract (ByteArray.mk (Array.mk [66, 77, 86, 79])) (Int.toNat (k - 1)) (Int.toNat k) = ByteArray.mk (Array.mk [letter k]) := by
      rcases hk2 with rfl | rfl <;> decide
    have hm : (ByteArray.mk (Array.mk [letter k])).size = 1 := rfl
    rw [he, sz_small (by omega), cond_false, sz_small (by rw [app_size]; omega), cond_false]
    obtain ⟨s', h1, h3⟩ := impl_loop L K hL hK hP h2 ks (q ++ [k]) (p ++ [n]) r (s ++ (ByteArray.mk (Array.mk [letter k]) ++ ByteArray.mk (Lib.itoa n).toArray)) (nxt hq) (nxt h) (by simp [hpq]) (by simpa using hr)
      (by rw [app_size, app_size]; simp; omega)
    refine ⟨s', h1, ?_⟩
    rw [h3, app_list, app_list, mk_list, tI]
    simp

theorem okS_inv {a : List Int × List Int} (h : okS a = true) : 1 ≤ a.1.length ∧ a.1.length ≤ 14 ∧ a.2.length + 1 = a.1.length ∧ a.1.all P1 = true ∧ a.2.all P2 = true := by
  simp only [okS, szs, Bool.and_eq_true, decide_eq_true_eq] at h
  exact ⟨by omega, by omega, by omega, h.1.2.1, h.2.2⟩


theorem spec_txt {a : List Int × List Int} (h : okS a = true) : ∃ s, g_spec_l25Text a = some s ∧ s.data.toList = tS a.1 a.2 := by
  obtain ⟨k1, k2, k3, k4, k5⟩ := okS_inv h
  obtain ⟨s', h3, h4⟩ := spec_loop a.1 a.2 k2 (by omega) k4 k5 a.1 [] [] a.2 (ByteArray.mk (Array.mk [])) rfl rfl (.inl rfl) (by show 0 ≤ _; omega)
  have h3' : w_spec_l25Text_4 (m_spec_l25Text_4 (ByteArray.mk (Array.mk [])) 0 a.1 a.2) = _ := h3
  refine ⟨s', ?_, by rw [h4]; simp⟩
  rw [g_spec_l25Text, t_spec_l25Text, h3']; rfl

theorem impl_txt {a : List Int × List Int} (h : okS a = true) : ∃ s, g_impl_stripText a = some s ∧ s.data.toList = tS a.1 a.2 := by
  obtain ⟨k1, k2, k3, k4, k5⟩ := okS_inv h
  obtain ⟨L, K⟩ := a
  cases L with
  | nil => simp at k1
  | cons n r =>
    have hn := P1_dec (List.all_eq_true.1 k4 n (by simp))
    have hi : idx (n :: r) (0 : Int) = some n := rfl
    obtain ⟨s', h3, h4⟩ := impl_loop (n :: r) K k2 (by simp at k2 k3; omega) k4 k5 K [] [n] r (ByteArray.mk (Lib.itoa n).toArray) rfl rfl rfl (by simp at k3; omega) (by have := itoa_size hn.1 hn.2; simp only [List.length_singleton]; omega)
    have h3' : w_impl_stripText_4 (m_impl_stripText_4 (ByteArray.mk (Lib.itoa n).toArray) K ((K.length : Nat) : Int) 0 (n :: r) K) = _ := h3
    refine ⟨s', ?_, by rw [h4, mk_list, tS_tI K r n (by simp at k3; omega)]⟩
    rw [g_impl_stripText, t_impl_stripText, hi, Option.bind_some, impl_dec hn.1 hn.2, Option.bind_some, h3']; rfl

/-! digits -/
def isD (c : UInt8) : Bool := decide (48 ≤ c.toNat) && decide (c.toNat ≤ 57)
theorem digit_spec (c : UInt8) : g_spec_l01Digit (((c.toNat : Nat)) : Int) = some (isD c) := by
  rw [g_spec_l01Digit, t_spec_l01Digit]
  unfold isD
  by_cases h1 : 48 ≤ c.toNat
  · rw [dec_t (p := ((c.toNat : Nat) : Int) ≥ 48) (by omega), dec_t h1, cond_true, Bool.true_and]
    congr 1
    exact decide_eq_decide.2 (by omega)
  · rw [dec_f (p := ((c.toNat : Nat) : Int) ≥ 48) (by omega), dec_f h1]; rfl

theorem dd_lt {u : Nat} (h : u < 10) : Lib.decDigits u = [UInt8.ofNat (48 + u)] := by rw [Lib.decDigits, dif_pos h]
theorem dd_ge {u : Nat} (h : ¬ u < 10) : Lib.decDigits u = Lib.decDigits (u / 10) ++ [UInt8.ofNat (48 + u % 10)] := by
  conv => lhs; rw [Lib.decDigits, dif_neg h]
theorem dig_nat {d : Nat} (h : d < 10) : (UInt8.ofNat (48 + d)).toNat = 48 + d := by
  simp; omega
theorem dig_isD {d : Nat} (h : d < 10) : isD (UInt8.ofNat (48 + d)) = true := by
  unfold isD; rw [dig_nat h, dec_t (by omega), dec_t (by omega)]; rfl

theorem dd_all : ∀ (N u : Nat), u < 10 ^ (N + 1) → ∀ c ∈ Lib.decDigits u, isD c = true
  | 0, u, h, c, hc => by
    rw [dd_lt (by omega)] at hc
    rw [List.mem_singleton.1 hc]; exact dig_isD (by omega)
  | N + 1, u, h, c, hc => by
    by_cases hu : u < 10
    · rw [dd_lt hu] at hc
      rw [List.mem_singleton.1 hc]; exact dig_isD hu
    · rw [dd_ge hu] at hc
      rcases List.mem_append.1 hc with hc | hc
      · exact dd_all N (u / 10) (by rw [Nat.pow_succ] at h; omega) c hc
      · rw [List.mem_singleton.1 hc]; exact dig_isD (Nat.mod_lt _ (by omega))

theorem pum_append (M : Nat) : ∀ (a b : List UInt8) (acc v : Nat), Lib.parseUintM M acc a = .ok v → Lib.parseUintM M acc (a ++ b) = Lib.parseUintM M v b
  | [], b, acc, v, h => by cases h; rfl
  | c :: a, b, acc, v, h => by
    simp only [Lib.parseUintM] at h
    simp only [List.cons_append, Lib.parseUintM]
    split at h
    · rename_i h1
      rw [if_pos h1]
      split at h
      · cases h
      · rename_i h2
        rw [if_neg h2]
        split at h
        · cases h
        · rename_i h3
          rw [if_neg h3]
          exact pum_append M a b _ v h
    · cases h

theorem pum_digits : ∀ (N u : Nat), u < 10 ^ (N + 1) → N ≤ 8 → Lib.parseUintM (2 ^ 64 - 1) 0 (Lib.decDigits u) = .ok u
  | 0, u, h, _ => by
    rw [dd_lt (by omega)]
    simp only [Lib.parseUintM, dig_nat (show u < 10 by omega)]
    rw [if_pos (by omega), if_neg (by omega), if_neg (by omega)]
    congr 1; omega
  | N + 1, u, h, hN => by
    have hp : 10 ^ (N + 1) ≤ 10 ^ 8 := Nat.pow_le_pow_right (by omega) (by omega)
    by_cases hu : u < 10
    · rw [dd_lt hu]
      simp only [Lib.parseUintM, dig_nat hu]
      rw [if_pos (by omega), if_neg (by omega), if_neg (by omega)]
      congr 1; omega
    · have hlt : u / 10 < 10 ^ (N + 1) := by rw [Nat.pow_succ] at h; omega
      rw [dd_ge hu, pum_append _ _ _ _ _ (pum_digits N (u / 10) hlt (by omega))]
      simp only [Lib.parseUintM, dig_nat (show u % 10 < 10 by omega)]
      rw [if_pos (by omega), if_neg (by omega), if_neg (by omega)]
      congr 1; omega

theorem num_itoa {n : Int} (h0 : 1 ≤ n) (h1 : n ≤ 1000) : (numRes ⟨(Lib.itoa n).toArray⟩).1 = n := by
  obtain ⟨u, rfl⟩ : ∃ u : Nat, n = (u : Int) := ⟨n.toNat, by omega⟩
  rw [Lib.itoa_nonneg]
  have hp := pum_digits 3 u (by omega) (by omega)
  have hall := dd_all 3 u (by omega)
  unfold numRes
  rw [mk_list]
  cases hd : Lib.decDigits u with
  | nil => rw [hd] at hp; simp only [Lib.parseUintM] at hp; cases hp; omega
  | cons c r =>
    have hc := hall c (by rw [hd]; simp)
    simp only [isD, Bool.and_eq_true, decide_eq_true_eq] at hc
    have h3 : ¬ (c.toNat = 43 ∨ c.toNat = 45) := by omega
    have h5 : ¬ c.toNat = 45 := by omega
    rw [hd] at hp
    have hi : Lib.parseIntB 64 (c :: r) = .ok (u : Int) := by
      simp only [Lib.parseIntB, if_neg h3, Lib.parseUintB, if_neg (show ¬ (c :: r = []) by simp), hp]
      rw [if_neg (by intro h; have := h.2; omega), if_neg (by intro h; exact h5 h.1), if_neg h5]
    rw [hi]

end Go.Proofs.YtjfgddmngnkfdaaDoor
