/- The reference reads. No conditions. -/
import Derived.Test.YtjfgddmngnkfdaaDoorRS5
namespace Go.Proofs.YtjfgddmngnkfdaaDoor
open Go.Vai
def specP : List UInt8 → Int → List Int → List Int → Option (Int × List Int × List Int)
  | [], n, L, K => some (n, L, K)
  | c :: r, n, L, K => cond (isD c && decide (n ≤ 1000)) (specP r (10 * n + ((c.toNat : Int) - 48)) L K)
      (cond ((c.toNat : Int) == 77) (specP r 0 (L ++ [n]) (K ++ [2])) (cond ((c.toNat : Int) == 86) (specP r 0 (L ++ [n]) (K ++ [3])) none))

theorem idxB_at {s : ByteArray} {p r : List UInt8} {c : UInt8} (h : s.data.toList = p ++ c :: r) : idxB s ((p.length : Nat) : Int) = some c := by
  have hl : s.data.toList[p.length]? = some c := by rw [h, List.getElem?_append_right (Nat.le_refl _), Nat.sub_self]; rfl
  have hlt : p.length < s.size := by
    have := (List.getElem?_eq_some_iff.1 hl).1
    rw [len_size]; exact this
  unfold idxB
  rw [if_pos (by omega), Int.toNat_natCast, getElem?_pos s p.length hlt]
  rw [← hl, Array.getElem?_toList, Array.getElem?_eq_getElem (by exact hlt)]
  rfl

theorem cond2 {R : Type} (a b : Bool) (A T : R) : cond a (cond b A T) T = cond (a && b) A T := by cases a <;> rfl

theorem spec_read (s : ByteArray) (hs : s.size ≤ 70) : ∀ (r p : List UInt8) (n : Int) (L K : List Int), s.data.toList = p ++ r → 0 ≤ n → n ≤ 10009 → L.length ≤ p.length → K.length ≤ p.length →
    ∃ n' L' K', w_spec_ReadStrip_7 (m_spec_ReadStrip_7 s n ((p.length : Nat) : Int) [] [] L K) = some (match specP r n L K with | some z => .inr (.inl (d_spec_ReadStrip_7_1 s z.1 [] [] z.2.1 z.2.2)) | none => .inl (d_spec_ReadStrip_7_0 s false n' [] [] L' K'))
  | [], p, n, L, K, h, h0, h1, hL, hK => by
    have hz : s.size = p.length := by rw [len_size, h]; simp
    refine ⟨0, [], [], ?_⟩
    rw [wq_spec_ReadStrip_7, u_spec_ReadStrip_7, dec_f (by omega), cond_false]; rfl
  | c :: r, p, n, L, K, h, h0, h1, hL, hK => by
    have hz : s.size = p.length + (r.length + 1) := by rw [len_size, h]; simp
    have g1 : ∀ x : Int, decide ((L.length + [x].length) * 8 ≤ 70368744177664) = true := fun x => dec_t (by simp; omega)
    have g2 : ∀ x : Int, decide ((L.length + [x].length) ≤ 70368744177664) = true := fun x => dec_t (by simp; omega)
    have g3 : ∀ x : Int, decide ((K.length + [x].length) * 8 ≤ 70368744177664) = true := fun x => dec_t (by simp; omega)
    have g4 : ∀ x : Int, decide ((K.length + [x].length) ≤ 70368744177664) = true := fun x => dec_t (by simp; omega)
    have e1 : IntKind.wrap IntKind.i64 (((p.length : Nat) : Int) + 1) = (((p ++ [c]).length : Nat) : Int) := by
      rw [wrap_id (by omega) (by omega)]; simp
    have hn : s.data.toList = (p ++ [c]) ++ r := by rw [h]; simp
    rw [wq_spec_ReadStrip_7, u_spec_ReadStrip_7, dec_t (by omega), cond_true]
    simp only [idxB_at h, Option.bind_some, digit_spec, g1, g2, g3, g4, cond_true, e1]
    rw [cond2, specP]
    cases hd : (isD c && decide (n ≤ 1000))
    · simp only [cond_false]
      cases h7 : (((c.toNat : Nat) : Int) == 77)
      · simp only [cond_false]
        cases h8 : (((c.toNat : Nat) : Int) == 86)
        · exact ⟨n, L, K, rfl⟩
        · simp only [cond_true]
          exact spec_read s hs r (p ++ [c]) 0 (L ++ [n]) (K ++ [3]) hn (by omega) (by omega) (by simp; omega) (by simp; omega)
      · have h8 : (((c.toNat : Nat) : Int) == 86) = false := by
          have := eq_of_beq h7
          rw [this]; rfl
        simp only [cond_true, h8, cond_false]
        exact spec_read s hs r (p ++ [c]) 0 (L ++ [n]) (K ++ [2]) hn (by omega) (by omega) (by simp; omega) (by simp; omega)
    · simp only [cond_true]
      simp only [isD, Bool.and_eq_true, decide_eq_true_eq] at hd
      have e2 : IntKind.wrap IntKind.i64 (IntKind.wrap IntKind.i64 (10 * n) + IntKind.wrap IntKind.i64 (IntKind.wrap IntKind.u8 (((c.toNat : Nat) : Int) - 48))) = 10 * n + ((c.toNat : Int) - 48) := by
        rw [wrap_u8 (by omega) (by omega), wrap_id (n := 10 * n) (by omega) (by omega), wrap_id (n := ((c.toNat : Nat) : Int) - 48) (by omega) (by omega), wrap_id (by omega) (by omega)]
      rw [e2]
      exact spec_read s hs r (p ++ [c]) (10 * n + ((c.toNat : Int) - 48)) L K hn (by omega) (by omega) (by simp; omega) (by simp; omega)

theorem specP_len : ∀ (r : List UInt8) (n : Int) (L K : List Int) (z : Int × List Int × List Int), specP r n L K = some z → z.2.1.length ≤ L.length + r.length ∧ z.2.2.length ≤ K.length + r.length
  | [], n, L, K, z, h => by cases h; simp
  | c :: r, n, L, K, z, h => by
    rw [specP] at h
    simp only [List.length_cons]
    cases hd : (isD c && decide (n ≤ 1000))
    · rw [hd, cond_false] at h
      cases h7 : (((c.toNat : Nat) : Int) == 77)
      · rw [h7, cond_false] at h
        cases h8 : (((c.toNat : Nat) : Int) == 86)
        · rw [h8] at h; cases h
        · rw [h8, cond_true] at h
          have := specP_len r _ _ _ z h
          simp at this; omega
      · rw [h7, cond_true] at h
        have := specP_len r _ _ _ z h
        simp at this; omega
    · rw [hd, cond_true] at h
      have := specP_len r _ _ _ z h
      omega

theorem specP_dig (r : List UInt8) (L K : List Int) : ∀ (N u : Nat) (rr : List UInt8), u < 10 ^ (N + 1) → u ≤ 1000 → specP (Lib.decDigits u ++ rr) 0 L K = specP rr (u : Int) L K
  | 0, u, rr, h, h1 => by
    rw [dd_lt (by omega), List.singleton_append, specP, dig_isD (by omega), dec_t (by omega), dig_nat (by omega)]
    simp only [Bool.and_self, cond_true]
    congr 1; omega
  | N + 1, u, rr, h, h1 => by
    by_cases hu : u < 10
    · rw [dd_lt hu, List.singleton_append, specP, dig_isD hu, dec_t (by omega), dig_nat hu]
      simp only [Bool.and_self, cond_true]
      congr 1; omega
    · rw [dd_ge hu, List.append_assoc, specP_dig r L K N (u / 10) _ (by rw [Nat.pow_succ] at h; omega) (by omega), List.singleton_append, specP, dig_isD (Nat.mod_lt _ (by omega)), dec_t (by omega), dig_nat (Nat.mod_lt _ (by omega))]
      simp only [Bool.and_self, cond_true]
      congr 1; omega

theorem specP_num {n : Int} (h0 : 1 ≤ n) (h1 : n ≤ 1000) (rr : List UInt8) (L K : List Int) : specP (Lib.itoa n ++ rr) 0 L K = specP rr n L K := by
  obtain ⟨u, rfl⟩ : ∃ u : Nat, n = (u : Int) := ⟨n.toNat, by omega⟩
  rw [Lib.itoa_nonneg]
  exact specP_dig rr L K 3 u rr (by omega) (by omega)

theorem letter_not {k : Int} (h : k = 2 ∨ k = 3) : isD (letter k) = false := by
  rcases h with rfl | rfl <;> decide

theorem specP_tS : ∀ (K L L0 K0 : List Int), K.length + 1 = L.length → L.all P1 = true → K.all P2 = true → ∃ n L1, specP (tS L K) 0 L0 K0 = some (n, L0 ++ L1, K0 ++ K) ∧ L1 ++ [n] = L
  | [], [n], L0, K0, _, hL, _ => by
    have hn := P1_iff (List.all_eq_true.1 hL n (by simp))
    refine ⟨n, [], ?_, rfl⟩
    rw [tS, specP_num hn.1 hn.2, tS, specP]; simp
  | [], [], L0, K0, h, _, _ => by simp at h
  | [], _ :: _ :: _, L0, K0, h, _, _ => by simp at h
  | _ :: _, [], L0, K0, h, _, _ => by simp at h
  | k :: ks, n :: r, L0, K0, h, hL, hK => by
    have hn := P1_iff (List.all_eq_true.1 hL n (by simp))
    have hk := P2_iff (List.all_eq_true.1 hK k (by simp))
    obtain ⟨n', L1, h1, h2⟩ := specP_tS ks r (L0 ++ [n]) (K0 ++ [k]) (by simpa using h) (by simp at hL ⊢; exact hL.2) (by simp at hK ⊢; exact hK.2)
    refine ⟨n', n :: L1, ?_, by rw [List.cons_append, h2]⟩
    rw [tS, specP_num hn.1 hn.2, specP, letter_not hk, Bool.false_and, cond_false]
    rcases hk with rfl | rfl
    · rw [show (((letter 2).toNat : Nat) : Int) = 77 from rfl]
      simp only [BEq.rfl, cond_true]
      rw [h1]; simp
    · rw [show (((letter 3).toNat : Nat) : Int) = 86 from rfl, show ((86 : Int) == 77) = false from rfl, cond_false]
      simp only [BEq.rfl, cond_true]
      rw [h1]; simp

theorem tS_len : ∀ (L K : List Int), L.all P1 = true → (tS L K).length ≤ 5 * L.length
  | [], _, _ => by simp [tS]
  | n :: r, [], h => by
    have hn := P1_iff (List.all_eq_true.1 h n (by simp))
    obtain ⟨u, rfl⟩ : ∃ u : Nat, n = (u : Int) := ⟨n.toNat, by omega⟩
    have h2 := digits_len 4 u (by omega) (by omega)
    have := tS_len r [] (by simp at h ⊢; exact h.2)
    rw [tS, Lib.itoa_nonneg, List.length_append]; simp; omega
  | n :: r, k :: ks, h => by
    have hn := P1_iff (List.all_eq_true.1 h n (by simp))
    obtain ⟨u, rfl⟩ : ∃ u : Nat, n = (u : Int) := ⟨n.toNat, by omega⟩
    have h2 := digits_len 4 u (by omega) (by omega)
    have := tS_len r ks (by simp at h ⊢; exact h.2)
    rw [tS, Lib.itoa_nonneg, List.length_append]; simp; omega

end Go.Proofs.YtjfgddmngnkfdaaDoor
