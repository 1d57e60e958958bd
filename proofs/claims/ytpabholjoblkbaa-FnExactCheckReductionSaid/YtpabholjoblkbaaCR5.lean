/- The law's text. No conditions. -/
import Derived.Test.YtpabholjoblkbaaCR4
namespace Go.Proofs.Ytpabholjoblkbaa
open Go.Vai
/-! the strip as a law's input -/
theorem szStrip_ok (a : List Int × List Int) (ha : a.1.length ≤ 9223372036854775807) (hb : a.2.length ≤ 9223372036854775807) : ∃ y, g_laws_szStrip a 1048576 = some y ∧ (y < 0 ∨ (a.1.length ≤ 1048576 ∧ a.2.length ≤ 1048576 ∧ y = 1048576 - a.1.length - a.2.length)) := by
  rw [g_laws_szStrip, t_laws_szStrip, sz_ok _ ha _ (by omega) (by omega), Option.bind_some]
  by_cases h1 : (1048576 : Int) < a.1.length
  · rw [if_pos h1]; exact ⟨-1, rfl, .inl (by omega)⟩
  · rw [if_neg h1, dec_f (by omega), cond_false, sz_ok _ hb _ (by omega) (by omega), Option.bind_some]
    by_cases h2 : (1048576 : Int) - a.1.length < a.2.length
    · rw [if_pos h2]; exact ⟨-1, rfl, .inl (by omega)⟩
    · rw [if_neg h2, dec_f (by omega), cond_false]; exact ⟨_, rfl, .inr ⟨by omega, by omega, rfl⟩⟩
theorem toStrip_ok (a : List Int × List Int) (h1 : a.1.length ≤ 1048576) (h2 : a.2.length ≤ 1048576) : g_laws_toStrip a = some a := by
  rw [g_laws_toStrip, t_laws_toStrip, to_Int64S _ h1, Option.bind_some, to_Int64S _ h2]; rfl
theorem eqStrip_ok (a : List Int × List Int) (h1 : a.1.length ≤ 1048576) (h2 : a.2.length ≤ 1048576) : g_laws_eqStrip a a = some true := by
  rw [g_laws_eqStrip, t_laws_eqStrip, eq_Int64S _ _ (by omega), Option.bind_some, eq_Int64S _ _ (by omega)]
  simp
/-! a list of steps, one after another -/
theorem toSps_loop (l : List Sp) (hl : l.length ≤ 1048576) : ∀ (r p q s : List Sp), l = p ++ r → q = p → s.length = r.length →
    w_laws_toStripStepS_4 (m_laws_toStripStepS_4 l (q ++ s) ((p.length : Nat) : Int)) = some (.inl (d_laws_toStripStepS_4_0 l))
  | [], p, q, s, h, hq, hs => by
    rw [wq_laws_toStripStepS_4, u_laws_toStripStepS_4, lt_end h, cond_false]
    subst hq
    rw [List.length_nil, List.length_eq_zero_iff] at hs
    subst hs
    rw [← h]; rfl
  | x :: r, p, q, [], h, hq, hs => by simp at hs
  | x :: r, p, q, y :: s, h, hq, hs => by
    subst hq
    rw [wq_laws_toStripStepS_4, u_laws_toStripStepS_4, lt_in h, cond_true, ix h]
    have e : g_laws_toStripStep x = some x := rfl
    simp only [Option.bind_some, e, im, sm]
    rw [wr h (by omega)]
    have IH := toSps_loop l hl r (q ++ [x]) (q ++ [x]) s (nxt h) rfl (by simpa using hs)
    rw [List.append_assoc] at IH
    exact IH
theorem toSps (l : List Sp) (hl : l.length ≤ 1048576) : g_laws_toStripStepS l = some l := by
  have h := toSps_loop l hl l [] [] (List.replicate l.length (0, 0)) rfl rfl (by simp)
  have h' : w_laws_toStripStepS_4 (m_laws_toStripStepS_4 l (List.replicate l.length ((0 : Int), (0 : Int))) 0) = _ := h
  rw [g_laws_toStripStepS, t_laws_toStripStepS]
  simp only [Int.toNat_natCast]
  rw [dec_t (by omega), dec_t (by omega), dec_t (by omega), cond_true, cond_true, cond_true, h']; rfl

theorem eqSpsB_loop (l : List Sp) (hl : l.length ≤ 1048576) : ∀ (r p : List Sp), l = p ++ r → w_laws_eqStripStepS_5 (m_laws_eqStripStepS_5 l l ((p.length : Nat) : Int)) = some (.inr (.inl d_laws_eqStripStepS_5_1))
  | [], p, h => by
    rw [wq_laws_eqStripStepS_5, u_laws_eqStripStepS_5, lt_end h, cond_false]; rfl
  | x :: r, p, h => by
    rw [wq_laws_eqStripStepS_5, u_laws_eqStripStepS_5, lt_in h, cond_true, ix h]
    simp only [Option.bind_some]
    rw [g_laws_eqStripStep, t_laws_eqStripStep, bne_self_eq_false, bne_self_eq_false, cond_false, cond_false, Option.bind_some, Bool.not_true, cond_false, wr h (by omega)]
    exact eqSpsB_loop l hl r (p ++ [x]) (nxt h)
theorem eqSpsB (l : List Sp) (hl : l.length ≤ 1048576) : g_laws_eqStripStepS l l = some true := by
  have h' : w_laws_eqStripStepS_5 (m_laws_eqStripStepS_5 l l 0) = _ := eqSpsB_loop l hl l [] rfl
  rw [g_laws_eqStripStepS, t_laws_eqStripStepS, bne_self_eq_false, cond_false, h']; rfl

noncomputable def chkB : List Sp → Str → Bool
  | [], a => ((a.1.length : Nat) : Int) == 1
  | x :: r, a => cond (canB a x) (chkB r (stepA a x)) false

theorem specChk (l : List Sp) (hl : l.length ≤ 1048576) : ∀ (r p : List Sp) (a : Str), l = p ++ r → Shp a →
    (w_spec_CheckReduction_6 (m_spec_CheckReduction_6 l ((p.length : Nat) : Int) a.1 a.2)).bind (exC x_spec_CheckReduction_6 (fun e => some (e.1.1.1 : Bool), fun e => some ((((List.length (e.2.1.1.1 : List Int)) : Nat) : Int) == (1 : Int)), ())) = some (chkB r a)
  | [], p, a, h, ha => by
    rw [wq_spec_CheckReduction_6, u_spec_CheckReduction_6, lt_end h, cond_false]; rfl
  | x :: r, p, a, h, ha => by
    rw [wq_spec_CheckReduction_6, u_spec_CheckReduction_6, lt_in h, cond_true, ix h]
    simp only [Option.bind_some]
    have e0 : g_spec_l25Can (a.1, a.2) x = _ := can_ok ha x
    rw [e0, Option.bind_some]
    unfold chkB
    cases hc : canB a x
    · rfl
    · have e1 : g_spec_l25Apply (a.1, a.2) x = _ := specApply ha hc
      rw [Bool.not_true, cond_false, e1, Option.bind_some, wr h (by omega), cond_true]
      exact specChk l hl r (p ++ [x]) (stepA a x) (nxt h) (stepA_shp ha hc).1

theorem implChk (l : List Sp) (hl : l.length ≤ 1048576) : ∀ (r p : List Sp) (a : Str), l = p ++ r → Shp a →
    (w_impl_CheckReduction_5 (m_impl_CheckReduction_5 l ((l.length : Nat) : Int) ((p.length : Nat) : Int) a.1 a.2)).bind (exC x_impl_CheckReduction_5 (fun e => some (e.1.2.1.1 : Bool), fun e => some ((((List.length (e.2.1.1.1 : List Int)) : Nat) : Int) == (1 : Int)), ())) = some (chkB r a)
  | [], p, a, h, ha => by
    rw [wq_impl_CheckReduction_5, u_impl_CheckReduction_5, lt_end h, cond_false]; rfl
  | x :: r, p, a, h, ha => by
    rw [wq_impl_CheckReduction_5, u_impl_CheckReduction_5, lt_in h, cond_true, ix h]
    simp only [Option.bind_some]
    have e0 : g_impl_Strip_isPossible (a.1, a.2) x = _ := (can_eq a x).trans (can_ok ha x)
    rw [e0, Option.bind_some]
    unfold chkB
    cases hc : canB a x
    · rfl
    · have e1 : g_impl_Strip_apply (a.1, a.2) x = _ := implApply ha hc
      rw [Bool.not_true, cond_false, e1, Option.bind_some, wr h (by omega), cond_true]
      exact implChk l hl r (p ++ [x]) (stepA a x) (nxt h) (stepA_shp ha hc).1

theorem specCheck (a : Str) (l : List Sp) (h1 : a.1.length ≤ 1048576) (h2 : a.2.length ≤ 1048576) (hl : l.length ≤ 1048576) : g_spec_CheckReduction a l = some (okS a && chkB l a) := by
  rw [g_spec_CheckReduction, t_spec_CheckReduction, spec_ok a h1 h2, Option.bind_some]
  cases h : okS a
  · rfl
  · have ha := okS_len h
    have e1 : g_spec_l25Own a = some a := by
      rw [g_spec_l25Own, t_spec_l25Own]
      have ow : ∀ l : List Int, l.length ≤ 14 → g_spec_l00Own l = some l := fun l hl => by
        rw [g_spec_l00Own, t_spec_l00Own]
        simp only [List.length_nil, Nat.zero_add, List.nil_append]
        rw [dec_t (by omega), dec_t (by omega)]; rfl
      rw [ow _ (by omega), ow _ (by omega)]; rfl
    rw [Bool.not_true, cond_false, e1, Option.bind_some, Bool.true_and]
    exact specChk l hl l [] a rfl ha
theorem implCheck (a : Str) (l : List Sp) (h1 : a.1.length ≤ 1048576) (h2 : a.2.length ≤ 1048576) (hl : l.length ≤ 1048576) : g_impl_CheckReduction a l = some (okS a && chkB l a) := by
  rw [g_impl_CheckReduction, t_impl_CheckReduction, impl_ok a h1 h2, Option.bind_some]
  cases h : okS a
  · rfl
  · have ha := okS_len h
    rw [Bool.not_true, cond_false, Bool.true_and, tq_impl_CheckReduction_5p, u_impl_CheckReduction_5p]
    cases l with
    | nil => rfl
    | cons x r =>
      have hi : idx (x :: r) (0 : Int) = some x := rfl
      rw [dec_t (show (0 : Int) < (((x :: r).length : Nat) : Int) by simp only [List.length_cons]; omega), cond_true, hi, Option.bind_some]
      have e0 : g_impl_Strip_isPossible (a.1, a.2) x = _ := (can_eq a x).trans (can_ok ha x)
      rw [e0, Option.bind_some]
      unfold chkB
      cases hc : canB a x
      · rfl
      · have e1 : g_impl_Strip_apply (a.1, a.2) x = _ := implApply ha hc
        rw [Bool.not_true, cond_false, e1, Option.bind_some, cond_true]
        exact implChk (x :: r) hl r [x] (stepA a x) rfl (stepA_shp ha hc).1

theorem law_CheckReduction (a : Str) (l : List Sp) (ha : a.1.length ≤ 9223372036854775807) (hb : a.2.length ≤ 9223372036854775807) (hl : l.length ≤ 9223372036854775807) : g_laws_FnExactCheckReduction a l = some true := by
  obtain ⟨y, hy, hc⟩ := szStrip_ok a ha hb
  rw [g_laws_FnExactCheckReduction, t_laws_FnExactCheckReduction, hy, Option.bind_some]
  rcases hc with h | ⟨h1, h2, h3⟩
  · rw [dec_t h]; rfl
  · by_cases hn : y < 0
    · rw [dec_t hn]; rfl
    · rw [dec_f hn, cond_false, g_laws_szStripStepS, t_laws_szStripStepS, wrap_id (n := y - ((l.length : Nat) : Int)) (by omega) (by omega)]
      by_cases hm : y - ((l.length : Nat) : Int) < 0
      · rw [dec_t hm]; rfl
      · have hl' : l.length ≤ 1048576 := by omega
        rw [dec_f hm, cond_false, Option.bind_some, dec_f hm, cond_false]
        simp only [toStrip_ok a h1 h2, eqStrip_ok a h1 h2, toSps l hl', eqSpsB l hl', specCheck a l h1 h2 hl', implCheck a l h1 h2 hl', Option.bind_some, beq_self_eq_true, Bool.not_true, cond_false]

end Go.Proofs.Ytpabholjoblkbaa
