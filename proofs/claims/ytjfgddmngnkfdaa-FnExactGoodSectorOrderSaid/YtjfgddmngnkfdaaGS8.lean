/- The plain law on GoodSectorOrder: what the law computes is true. No conditions. -/
import Derived.Test.YtjfgddmngnkfdaaGS7
namespace Go.Proofs.Ytjfgddmngnkfdaa
open Go.Vai

def kin (x : Int) : Bool := decide (2 ≤ x) && decide (x ≤ 4)
def okK (L K : List Int) : Bool := decide (K.length = L.length) && K.all kin

theorem kin_inv {x : Int} (h : kin x = true) : x = 2 ∨ x = 3 ∨ x = 4 := by
  simp only [kin, Bool.and_eq_true, decide_eq_true_eq] at h
  omega

theorem kin_step {R : Type} (x : Int) (p q : Option R) : cond (x != (2 : Int)) (cond (x != (3 : Int)) (cond true (cond (!(x == (4 : Int))) q p) q) p) p = cond (kin x) p q := by
  by_cases h2 : x = 2
  · subst h2; rfl
  · by_cases h3 : x = 3
    · subst h3; rfl
    · by_cases h4 : x = 4
      · subst h4; rfl
      · have e2 : (x != 2) = true := by rw [bne_iff_ne]; exact h2
        have e3 : (x != 3) = true := by rw [bne_iff_ne]; exact h3
        have e4 : (x == 4) = false := by rw [beq_eq_false_iff_ne]; exact h4
        have e5 : kin x = false := by
          cases hk : kin x with
          | false => rfl
          | true => have := kin_inv hk; omega
        rw [e2, e3, e4, e5]; rfl

theorem range_all (K : List Int) (P : Int → Bool) : ((List.range K.length).all fun i => P (K.getD i 0)) = K.all P := by
  rw [Bool.eq_iff_iff, List.all_eq_true, List.all_eq_true]
  constructor
  · intro h x hx
    obtain ⟨i, hi, rfl⟩ := List.getElem_of_mem hx
    have := h i (by simpa using hi)
    rw [List.getD_eq_getElem?_getD, List.getElem?_eq_getElem hi] at this
    exact this
  · intro h i hi
    have hi' : i < K.length := by simpa using hi
    refine h _ ?_
    rw [List.getD_eq_getElem?_getD, List.getElem?_eq_getElem hi']
    exact List.getElem_mem hi'

theorem kindsS (L K : List Int) (hK : K.length ≤ 1048576) : g_spec_l11Kinds L K true = some (okK L K) := by
  rw [g_spec_l11Kinds, t_spec_l11Kinds]
  have h : w_spec_l11Kinds_3 (m_spec_l11Kinds_3 L K true 0) = some (cond ((List.range K.length).all fun i => kin (K.getD i 0)) (.inr (.inl (d_spec_l11Kinds_3_1 L K))) (.inl (d_spec_l11Kinds_3_0 L K false))) := by
    refine all_loop (W := fun i => w_spec_l11Kinds_3 (m_spec_l11Kinds_3 L K true (i : Int))) ?_ ?_
    · try simp only []
      rw [wq_spec_l11Kinds_3, u_spec_l11Kinds_3, dec_f (by omega), cond_false]; rfl
    · intro i hi
      try simp only []
      rw [wq_spec_l11Kinds_3, u_spec_l11Kinds_3, dec_t (by omega), cond_true, ixg (d := 0) hi, Option.bind_some, w1 (by omega)]
      exact kin_step _ _ _
  rw [h, range_all]
  unfold okK
  cases K.all kin
  · simp only [cond_false, Bool.and_false]; rfl
  · simp only [cond_true, Bool.and_true]
    show some ((((K.length : Nat) : Int)) == ((L.length : Nat) : Int)) = _
    rw [beq_nat]; rfl

theorem kind1 (x : Int) : g_impl_areKinds_1 x 4 = some (!kin x) := by
  rw [g_impl_areKinds_1, t_impl_areKinds_1, g_impl_within, t_impl_within]
  unfold kin
  by_cases h : x ≥ 2
  · rw [dec_t h]; rfl
  · rw [dec_f h]; rfl

theorem ixf_kinds_loop (l : List Int) (hl : l.length ≤ 4611686018427387904) : ∀ (r p : List Int), l = p ++ r →
    w_slices_IndexFunc_Sint64_int64__impl_areKinds_1_3 (m_slices_IndexFunc_Sint64_int64__impl_areKinds_1_3 l ((l.length : Nat) : Int) ((p.length : Nat) : Int) 4) = some (match r.findIdx? fun x => !kin x with | some j => .inl (d_slices_IndexFunc_Sint64_int64__impl_areKinds_1_3_0 (((p.length + j : Nat) : Int))) | none => .inr (.inl d_slices_IndexFunc_Sint64_int64__impl_areKinds_1_3_1))
  | [], p, h => by
    rw [wq_slices_IndexFunc_Sint64_int64__impl_areKinds_1_3, u_slices_IndexFunc_Sint64_int64__impl_areKinds_1_3, lt_end h, cond_false]; rfl
  | x :: r, p, h => by
    rw [wq_slices_IndexFunc_Sint64_int64__impl_areKinds_1_3, u_slices_IndexFunc_Sint64_int64__impl_areKinds_1_3, lt_in h, cond_true, ix h]
    simp only [Option.bind_some, kind1]
    rw [List.findIdx?_cons]
    cases hx : (!kin x)
    · rw [cond_false, wr h hl]
      refine (ixf_kinds_loop l hl r (p ++ [x]) (nxt h)).trans ?_
      simp only [Bool.false_eq_true, if_false]
      cases hf : r.findIdx? fun x => !kin x
      · rfl
      · simp [Nat.add_comm, Nat.add_left_comm]
    · rfl

theorem has_kinds (l : List Int) (hl : l.length ≤ 4611686018427387904) : g_slices_ContainsFunc_Sint64_int64__impl_areKinds_1 l 4 = some (l.any fun x => !kin x) := by
  have h' : w_slices_IndexFunc_Sint64_int64__impl_areKinds_1_3 (m_slices_IndexFunc_Sint64_int64__impl_areKinds_1_3 l l.length 0 4) = _ := ixf_kinds_loop l hl l [] rfl
  rw [g_slices_ContainsFunc_Sint64_int64__impl_areKinds_1, t_slices_ContainsFunc_Sint64_int64__impl_areKinds_1, g_slices_IndexFunc_Sint64_int64__impl_areKinds_1, t_slices_IndexFunc_Sint64_int64__impl_areKinds_1, h', any_findIdx]
  cases l.findIdx? fun x => !kin x with
  | none => rfl
  | some j => simp [exC]

theorem kindsI (L K : List Int) (hK : K.length ≤ 1048576) : g_impl_areKinds L K true = some (okK L K) := by
  rw [g_impl_areKinds, t_impl_areKinds, cond_true, beq_nat, has_kinds K (by omega), Option.bind_some]
  unfold okK
  rw [show (K.any fun x => !kin x) = !K.all kin by simp [List.all_eq_not_any_not], Bool.not_not]
  by_cases h : K.length = L.length
  · rw [dec_t h, show (K.length == L.length) = true by simp [h]]; rfl
  · rw [dec_f h, show (K.length == L.length) = false by simp [h]]; rfl

/-- What GoodSectorOrder gives. -/
def gso (L K O : List Int) : Bool := okC L && (okK L K && ((decide (O.length = L.length * L.length) && formB L.length (plc 0 0 L) O) && gdS L.length (plc 0 0 L) O K))

theorem own_id (l : List Int) (hl : l.length ≤ 1048576) : g_spec_l00Own l = some l := by
  rw [g_spec_l00Own, t_spec_l00Own, dec_t (by simp; omega), dec_t (by simp; omega)]; rfl

theorem specG (L K O : List Int) (hL : L.length ≤ 1048576) (hK : K.length ≤ 1048576) (hO : O.length ≤ 1048576) : g_spec_GoodSectorOrder L K O = some (gso L K O) := by
  rw [g_spec_GoodSectorOrder, t_spec_GoodSectorOrder, spec_ok L hL, Option.bind_some, kindsS L K hK, Option.bind_some]
  unfold gso
  cases hc : okC L
  · rfl
  · cases hk : okK L K
    · rfl
    · obtain ⟨h1, h2, h3, h4, h5⟩ := okC_inv hc
      have hXl : (plc 0 0 L).length = L.length := plc_length L 0 0
      have hKl : K.length = L.length := by
        simp only [okK, Bool.and_eq_true, decide_eq_true_eq] at hk
        exact hk.1
      rw [newS hXl (by omega) h2 L rfl rfl, Option.bind_some, formS h2, Option.bind_some]
      simp only [Bool.not_true, cond_false, Bool.true_and]
      cases hf : (decide (O.length = L.length * L.length) && formB L.length (plc 0 0 L) O)
      · rfl
      · simp only [Bool.and_eq_true, decide_eq_true_eq] at hf
        rw [own_id O hO, Option.bind_some]
        have := goodS (O := O) (K := K) hXl (by omega) h2 hf.1 hKl
        rw [this]; rfl

theorem implG (L K O : List Int) (hL : L.length ≤ 1048576) (hK : K.length ≤ 1048576) : g_impl_GoodSectorOrder L K O = some (gso L K O) := by
  rw [g_impl_GoodSectorOrder, t_impl_GoodSectorOrder, impl_ok L hL, Option.bind_some, kindsI L K hK, Option.bind_some]
  unfold gso
  cases hc : okC L
  · rfl
  · cases hk : okK L K
    · rfl
    · obtain ⟨h1, h2, h3, h4, h5⟩ := okC_inv hc
      have hXl : (plc 0 0 L).length = L.length := plc_length L 0 0
      obtain ⟨hKl, hKa⟩ : K.length = L.length ∧ K.all kin = true := by
        simpa only [okK, Bool.and_eq_true, decide_eq_true_eq] using hk
      rw [g_impl_goodOrder, t_impl_goodOrder, newI hXl (by omega) h2 L rfl rfl, Option.bind_some, formI h2, Option.bind_some]
      simp only [cond_true, Bool.true_and]
      cases hf : (decide (O.length = L.length * L.length) && formB L.length (plc 0 0 L) O)
      · rfl
      · simp only [Bool.and_eq_true, decide_eq_true_eq] at hf
        have := goodI (O := O) (K := K) hXl (by omega) h2 hf.1 hKl
        rw [cond_true, this, good_eq hf.2 (by omega) (fun x hx => lo_par hc hx) (fun i hi => by
          refine kin_inv ?_
          refine List.all_eq_true.1 hKa _ ?_
          unfold kAt
          rw [List.getD_eq_getElem?_getD, List.getElem?_eq_getElem (by omega)]
          exact List.getElem_mem _)]
        rfl

theorem law_GoodSectorOrder (L K O : List Int) : g_laws_FnExactGoodSectorOrder L K O = some true := by
  rw [g_laws_FnExactGoodSectorOrder, t_laws_FnExactGoodSectorOrder]
  by_cases hL : L.length ≤ 1048576
  · rw [dec_f (p := ((L.length : Nat) : Int) > 1048576) (by omega), cond_false]
    by_cases hK : K.length ≤ 1048576
    · rw [dec_f (p := ((K.length : Nat) : Int) > 1048576) (by omega), cond_false]
      by_cases hO : O.length ≤ 1048576
      · rw [dec_f (p := ((O.length : Nat) : Int) > 1048576) (by omega), cond_false]
        simp only [to_Int64S L hL, to_Int64S K hK, to_Int64S O hO, Option.bind_some, specG L K O hL hK hO, implG L K O hL hK, eq_Int64S L L (by omega), eq_Int64S K K (by omega), eq_Int64S O O (by omega), beq_self_eq_true, Bool.not_true, cond_false, decide_true]
      · rw [dec_t (p := ((O.length : Nat) : Int) > 1048576) (by omega)]; rfl
    · rw [dec_t (p := ((K.length : Nat) : Int) > 1048576) (by omega)]; rfl
  · rw [dec_t (p := ((L.length : Nat) : Int) > 1048576) (by omega)]; rfl
end Go.Proofs.Ytjfgddmngnkfdaa
