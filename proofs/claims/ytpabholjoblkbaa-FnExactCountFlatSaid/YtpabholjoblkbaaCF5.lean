/- The law's text. No conditions. -/
import Derived.Test.YtpabholjoblkbaaCF4
namespace Go.Proofs.Ytpabholjoblkbaa
open Go.Vai
/-! all kinds, one after another -/
theorem wrapU {n : Int} (h0 : 0 ≤ n) (h1 : n ≤ 1000) : IntKind.wrap .u64 n = n := by
  simp only [IntKind.wrap, IntKind.bits, IntKind.signed]
  have : n % (2 ^ 64 : Int) = n := by omega
  first | (simp; omega) | (rw [this]; rfl) | (simp [this])

noncomputable def bitE (m : Int) (i : Nat) : Int := IntKind.wrap .i64 (2 + IntKind.wrap .i64 (((BitVec.toNat ((BitVec.ofInt 64 (Int.fdiv m ((2 : Int) ^ (Min.min i 64)))) &&& (BitVec.ofInt 64 (1 : Int)))) : Nat) : Int))
noncomputable def kb (m : Int) : Nat → Nat → List Int
  | _, 0 => []
  | i, c + 1 => bitE m i :: kb m (i + 1) c
theorem kb_length (m : Int) : ∀ (c i : Nat), (kb m i c).length = c
  | 0, _ => rfl
  | c + 1, i => by simp [kb, kb_length m c]

theorem specKinds (l : List Int) (h1 : 1 ≤ l.length) (h2 : l.length ≤ 14) (x5 m : Int) : ∀ (c i : Nat) (acc : List Int), i + c + 1 = l.length → acc.length = i →
    w_spec_CountFlat_11 (m_spec_CountFlat_11 l ((l.length : Nat) : Int) x5 m (i : Int) l acc) = some (.inl (d_spec_CountFlat_11_0 l ((l.length : Nat) : Int) x5 m l (acc ++ kb m i c)))
  | 0, i, acc, hi, ha => by
    rw [wq_spec_CountFlat_11, u_spec_CountFlat_11, wrap_id (n := ((l.length : Nat) : Int) - 1) (by omega) (by omega), dec_f (by omega), cond_false]
    simp only [kb, List.append_nil]; rfl
  | c + 1, i, acc, hi, ha => by
    rw [wq_spec_CountFlat_11, u_spec_CountFlat_11, wrap_id (n := ((l.length : Nat) : Int) - 1) (by omega) (by omega), dec_t (by omega), cond_true]
    simp only [wrapU (n := (i : Int)) (by omega) (by omega), Int.toNat_natCast, List.length_singleton]
    rw [dec_f (by omega), cond_false, dec_t (by omega), dec_t (by omega), cond_true, cond_true, wrap_id (n := (i : Int) + 1) (by omega) (by omega)]
    refine (specKinds l h1 h2 x5 m c (i + 1) (acc ++ [bitE m i]) (by omega) (by simp; omega)).trans ?_
    simp only [kb, List.append_assoc, List.singleton_append]

theorem implKinds (l : List Int) (x4 x5 m x16 : Int) : ∀ (s q : List Int), q.length + s.length ≤ 100 →
    w_impl_CountFlat_11 (m_impl_CountFlat_11 l x4 x5 m (q ++ s) x16 m (((q.length + s.length : Nat)) : Int) ((q.length : Nat) : Int)) = some (.inl (d_impl_CountFlat_11_0 l x4 x5 (q ++ kb m q.length s.length) x16 m))
  | [], q, h => by
    rw [wq_impl_CountFlat_11, u_impl_CountFlat_11, dec_f (by simp), cond_false]
    simp only [kb, List.length_nil]; rfl
  | y :: s, q, h => by
    simp only [List.length_cons] at h ⊢
    rw [wq_impl_CountFlat_11, u_impl_CountFlat_11, dec_t (by omega), cond_true, dec_f (by omega), cond_false, im, Option.bind_some, sm]
    simp only [Int.toNat_natCast]
    rw [wrap_id (n := ((q.length : Nat) : Int) + 1) (by omega) (by omega)]
    have IH := implKinds l x4 x5 m x16 s (q ++ [bitE m q.length]) (by simp; omega)
    have hq : (((q ++ [bitE m q.length]).length : Nat) : Int) = (q.length : Int) + 1 := by simp
    have hs : (q ++ [bitE m q.length]).length + s.length = q.length + (s.length + 1) := by simp; omega
    rw [hq, hs, List.append_assoc, List.append_assoc] at IH
    refine Eq.trans (Eq.trans ?_ IH) ?_
    · rfl
    · simp only [kb, List.length_append, List.length_singleton, List.singleton_append]

noncomputable def cntF (l : List Int) : Nat → Int → Int → Int
  | 0, _, acc => acc
  | k + 1, m, acc => cntF l k (IntKind.wrap .i64 (m + 1)) (cond (flatB (l, kb m 0 (l.length - 1))) (IntKind.wrap .i64 (acc + 1)) acc)

theorem pows : ∀ d : Fin 14, IntKind.wrap .i64 (1 * (2 : Int) ^ (Min.min d.1 64)) = (2 : Int) ^ d.1 ∧ 1 ≤ (2 : Int) ^ d.1 ∧ (2 : Int) ^ d.1 ≤ 8192 := by decide +kernel

theorem kShp (l : List Int) (h1 : 1 ≤ l.length) (h2 : l.length ≤ 14) (m : Int) : Shp (l, kb m 0 (l.length - 1)) := by
  simp only [Shp, kb_length]; omega

theorem specCount (l : List Int) (h1 : 1 ≤ l.length) (h2 : l.length ≤ 14) : ∀ (k : Nat) (m acc : Int), 0 ≤ m → m + k = (2 : Int) ^ (l.length - 1) →
    w_spec_CountFlat_7 (m_spec_CountFlat_7 l ((l.length : Nat) : Int) acc m) = some (.inl (d_spec_CountFlat_7_0 (cntF l k m acc)))
  | 0, m, acc, h0, hk => by
    obtain ⟨p1, p2, p3⟩ := pows ⟨l.length - 1, by omega⟩
    simp only at p1 p2 p3
    have e1 : IntKind.wrap .i64 (((l.length : Nat) : Int) - 1) = ((l.length - 1 : Nat) : Int) := by rw [wrap_id (by omega) (by omega)]; omega
    rw [wq_spec_CountFlat_7, u_spec_CountFlat_7, e1, wrapU (by omega) (by omega)]
    simp only [Int.toNat_natCast, p1]
    rw [dec_f (by omega), cond_false, dec_f (by omega), cond_false]
    rfl
  | k + 1, m, acc, h0, hk => by
    obtain ⟨p1, p2, p3⟩ := pows ⟨l.length - 1, by omega⟩
    simp only at p1 p2 p3
    have e1 : IntKind.wrap .i64 (((l.length : Nat) : Int) - 1) = ((l.length - 1 : Nat) : Int) := by rw [wrap_id (by omega) (by omega)]; omega
    have hK := specKinds l h1 h2 acc m (l.length - 1) 0 [] (by omega) rfl
    have hK' : w_spec_CountFlat_11 (m_spec_CountFlat_11 l ((l.length : Nat) : Int) acc m 0 l []) = _ := hK
    rw [wq_spec_CountFlat_7, u_spec_CountFlat_7, e1, wrapU (by omega) (by omega)]
    simp only [Int.toNat_natCast, p1]
    rw [dec_f (by omega), cond_false, dec_t (by omega), cond_true, hK', Option.bind_some]
    have hf : g_spec_l25Flat (l, kb m 0 (l.length - 1)) = _ := specFlat (kShp l h1 h2 m)
    show Option.bind (g_spec_l25Flat (l, kb m 0 (l.length - 1))) _ = _
    rw [hf, Option.bind_some]
    have hw : IntKind.wrap .i64 (m + 1) = m + 1 := wrap_id (by omega) (by omega)
    unfold cntF
    cases flatB (l, kb m 0 (l.length - 1))
    · exact specCount l h1 h2 k (IntKind.wrap .i64 (m + 1)) acc (by omega) (by omega)
    · exact specCount l h1 h2 k (IntKind.wrap .i64 (m + 1)) (IntKind.wrap .i64 (acc + 1)) (by omega) (by omega)

theorem implCount (l : List Int) (h1 : 1 ≤ l.length) (h2 : l.length ≤ 14) : ∀ (k : Nat) (m acc : Int), 0 ≤ m → m + k = (2 : Int) ^ (l.length - 1) →
    w_impl_CountFlat_7 (m_impl_CountFlat_7 l ((l.length - 1 : Nat) : Int) acc ((2 : Int) ^ (l.length - 1)) m) = some (.inl (d_impl_CountFlat_7_0 (cntF l k m acc)))
  | 0, m, acc, h0, hk => by
    rw [wq_impl_CountFlat_7, u_impl_CountFlat_7, dec_f (by omega), cond_false]
    rfl
  | k + 1, m, acc, h0, hk => by
    obtain ⟨p1, p2, p3⟩ := pows ⟨l.length - 1, by omega⟩
    simp only at p1 p2 p3
    have hK := implKinds l ((l.length - 1 : Nat) : Int) acc m ((2 : Int) ^ (l.length - 1)) (List.replicate (l.length - 1) (0 : Int)) [] (by simp; omega)
    simp only [List.length_nil, Nat.zero_add, List.nil_append, List.length_replicate] at hK
    have hK' : w_impl_CountFlat_11 (m_impl_CountFlat_11 l ((l.length - 1 : Nat) : Int) acc m (List.replicate (l.length - 1) (0 : Int)) ((2 : Int) ^ (l.length - 1)) m (((l.length - 1 : Nat)) : Int) 0) = _ := hK
    rw [wq_impl_CountFlat_7, u_impl_CountFlat_7]
    simp only [Int.toNat_natCast, List.length_replicate]
    rw [dec_t (by omega), cond_true, dec_t (by omega), cond_true, dec_t (by omega), cond_true, dec_t (by omega), cond_true, dec_t (by omega), cond_true, hK', Option.bind_some]
    have hf : g_impl_Strip_isFlat (l, kb m 0 (l.length - 1)) = _ := implFlat (kShp l h1 h2 m)
    show Option.bind (g_impl_Strip_isFlat (l, kb m 0 (l.length - 1))) _ = _
    rw [hf, Option.bind_some]
    have hw : IntKind.wrap .i64 (m + 1) = m + 1 := wrap_id (by omega) (by omega)
    unfold cntF
    cases flatB (l, kb m 0 (l.length - 1))
    · exact implCount l h1 h2 k (IntKind.wrap .i64 (m + 1)) acc (by omega) (by omega)
    · exact implCount l h1 h2 k (IntKind.wrap .i64 (m + 1)) (IntKind.wrap .i64 (acc + 1)) (by omega) (by omega)

theorem szs_len {l : List Int} (h : szs l = true) : 1 ≤ l.length ∧ l.length ≤ 14 := by
  simp only [szs, Bool.and_eq_true, decide_eq_true_eq] at h
  obtain ⟨⟨h1, h2⟩, _⟩ := h
  omega

noncomputable def cntO (l : List Int) : Int × Int := cond (szs l) (cntF l (2 ^ (l.length - 1)) 0 0, 0) (0, 1)

theorem spec_count (l : List Int) : g_spec_CountFlat l = some (cntO l) := by
  rw [g_spec_CountFlat, t_spec_CountFlat, spec_sizes l, Option.bind_some]
  unfold cntO
  cases h : szs l
  · rfl
  · obtain ⟨h1, h2⟩ := szs_len h
    rw [Bool.not_true, cond_false, specCount l h1 h2 (2 ^ (l.length - 1)) 0 0 (by omega) (by simp)]
    rfl
theorem impl_count (l : List Int) (hl : l.length ≤ 1048576) : g_impl_CountFlat l = some (cntO l) := by
  rw [g_impl_CountFlat, t_impl_CountFlat, impl_sizes l hl, Option.bind_some]
  unfold cntO
  cases h : szs l
  · rfl
  · obtain ⟨h1, h2⟩ := szs_len h
    obtain ⟨p1, p2, p3⟩ := pows ⟨l.length - 1, by omega⟩
    simp only at p1 p2 p3
    have e1 : IntKind.wrap .i64 (((l.length : Nat) : Int) - 1) = ((l.length - 1 : Nat) : Int) := by rw [wrap_id (by omega) (by omega)]; omega
    simp only [e1, Int.toNat_natCast, p1]
    rw [Bool.not_true, cond_false, dec_f (by omega), cond_false, implCount l h1 h2 (2 ^ (l.length - 1)) 0 0 (by omega) (by simp)]
    rfl

theorem law_CountFlat (l : List Int) (hl : l.length ≤ 9223372036854775807) : g_laws_FnExactCountFlat l = some true := by
  rw [g_laws_FnExactCountFlat, t_laws_FnExactCountFlat]
  by_cases h : ((l.length : Nat) : Int) > 1048576
  · rw [dec_t h]; rfl
  · have h1 : l.length ≤ 1048576 := by omega
    rw [dec_f h, cond_false]
    simp only [to_Int64S l h1, spec_count l, impl_count l h1, eq_Int64S l l (by omega), Option.bind_some, bne_self_eq_false, cond_false, decide_true, Bool.not_true]

end Go.Proofs.Ytpabholjoblkbaa
