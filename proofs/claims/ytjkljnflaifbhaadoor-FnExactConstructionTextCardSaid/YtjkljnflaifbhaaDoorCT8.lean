/- The text of a construction; the law. No conditions. -/
import Derived.Test.YtjkljnflaifbhaaDoorCT7
namespace Go.Proofs.YtjkljnflaifbhaaDoor
open Go.Vai
def jt (l : List ByteArray) : List UInt8 := Lib.joinTail [32] (l.map (·.data.toList))
theorem jt_nil : jt [] = [] := rfl
theorem jt_cons (x : ByteArray) (r : List ByteArray) : jt (x :: r) = 32 :: x.data.toList ++ jt r := by
  simp [jt, Lib.joinTail]
theorem jt_app (l r : List ByteArray) : jt (l ++ r) = jt l ++ jt r := by
  simp [jt, Lib.joinTail]
theorem join_jt (x : ByteArray) (r : List ByteArray) : Lib.join ((x :: r).map (·.data.toList)) [32] = x.data.toList ++ jt r := Lib.join_cons _ _ _

theorem name_size {s : ByteArray} (h : nameB s = true) : s.size ≤ 12 := by
  simp only [nameB, Bool.and_eq_true, decide_eq_true_eq] at h; exact h.1.2
theorem jt_len : ∀ (l : List ByteArray), l.all nameB = true → (jt l).length ≤ 13 * l.length
  | [], _ => by simp [jt_nil]
  | x :: r, h => by
    simp only [List.all_cons, Bool.and_eq_true] at h
    have h1 := name_size h.1
    have h2 := jt_len r h.2
    rw [size_list] at h1
    rw [jt_cons]
    simp only [List.cons_append, List.length_cons, List.length_append]; omega

/-- The kinds of constructions. -/
theorem kind_facts {k : Int} (h1 : 1 ≤ k) (h2 : k ≤ 12) : ∃ w f ws, idx conTab k = some (w, (f, chB k.toNat)) ∧ g_spec_l24Words = some ws ∧ idx ws k = some w ∧ g_spec_l24Chooses k = some (chB k.toNat) ∧ w.size ≤ 10 := by
  rcases k_cases h1 h2 with rfl | rfl | rfl | rfl | rfl | rfl | rfl | rfl | rfl | rfl | rfl | rfl <;> exact ⟨_, _, _, rfl, rfl, rfl, by kernel_rfl, by decide⟩

def conT (c : Cn) (w : ByteArray) : List UInt8 :=
  c.1.data.toList ++ (32 :: 61 :: 32 :: w.data.toList ++ (if c.2.1 = 1 then 32 :: ptT c.2.2.2.2.1 else if c.2.1 = 2 then 32 :: lnT c.2.2.2.2.2 else jt c.2.2.1 ++ (if chB c.2.1.toNat = true then 32 :: Lib.itoa c.2.2.2.1 else [])))

theorem sp_list : (ByteArray.mk (Array.mk [32])).data.toList = [32] := rfl
theorem eq_list : (ByteArray.mk (Array.mk [61])).data.toList = [61] := rfl
theorem seq_list : (ByteArray.mk (Array.mk [32, 61, 32])).data.toList = [32, 61, 32] := rfl
theorem seq_size : (ByteArray.mk (Array.mk [32, 61, 32])).size = 3 := rfl

theorem join_ok (x : ByteArray) (r : List ByteArray) (h1 : r.length ≤ 1000) (h2 : x.size ≤ 1000) (h3 : (jt r).length ≤ 1000) : g_strings_Join (x :: r) (ByteArray.mk (Array.mk [32])) = some ⟨(x.data.toList ++ jt r).toArray⟩ := by
  rw [g_strings_Join, sp_list, join_jt, if_pos]
  rw [size_list] at h2
  simp only [List.length_cons, List.length_append]; omega

theorem valid_inv {c : Cn} (h : validC c = true) : nameB c.1 = true ∧ 1 ≤ c.2.1 ∧ c.2.1 ≤ 12 ∧ c.2.2.1.length ≤ 4 ∧ c.2.2.1.all nameB = true ∧ 0 ≤ c.2.2.2.1 ∧ c.2.2.2.1 ≤ 7 ∧ okP c.2.2.2.2.1 = true ∧ okL c.2.2.2.2.2 = true ∧ (c.2.1 ≤ 2 → c.2.2.1 = []) := by
  simp only [validC, conB, Bool.and_eq_true, decide_eq_true_eq] at h
  obtain ⟨h1, ⟨h2, h3⟩, h4, h5, h6, _, _, h7, h8⟩ := h
  have hc : 0 ≤ c.2.2.2.1 ∧ c.2.2.2.1 ≤ 7 := by
    cases hch : chB c.2.1.toNat with
    | true => rw [hch] at h6; simpa using h6
    | false =>
      rw [hch] at h6
      have : c.2.2.2.1 = 0 := by simpa using h6
      omega
  refine ⟨h1, h2, h3, ?_, h5, hc.1, hc.2, h7, h8, fun hk => ?_⟩
  · rw [h4]
    rcases k_cases h2 h3 with e | e | e | e | e | e | e | e | e | e | e | e <;> rw [e] <;> decide
  · have : c.2.1 = 1 ∨ c.2.1 = 2 := by omega
    rcases this with e | e <;> rw [e] at h4 <;> exact List.length_eq_zero_iff.1 h4

theorem impl_ct (c : Cn) (h : validC c = true) (w : ByteArray) (f : ByteArray) (hw : idx conTab c.2.1 = some (w, (f, chB c.2.1.toNat))) (sw : w.size ≤ 10) : ∃ s, g_impl_constructionText c = some s ∧ s.data.toList = conT c w := by
  obtain ⟨h1, h2, h3, h4, h5, h6, h7, h8, h9, h10⟩ := valid_inv h
  have sn := name_size h1
  have sj := jt_len _ h5
  have swl : w.data.toList.length ≤ 10 := by rw [← size_list]; exact sw
  rw [g_impl_constructionText, t_impl_constructionText]
  have hw' := hw
  unfold conTab at hw'
  rw [hw', Option.bind_some]
  simp only [List.length_cons, List.length_nil]
  rw [dec_t (by omega), dec_t (by omega), cond_true, cond_true]
  unfold conT
  by_cases k1 : c.2.1 = 1
  · obtain ⟨s, hs, hs', ss⟩ := impl_pt _ h8
    rw [show (c.2.1 == 1) = true by simp [k1], cond_true, hs, Option.bind_some, h10 (by omega)]
    simp only [List.append_nil, List.length_cons, List.length_nil]
    rw [dec_t (by omega), dec_t (by omega), cond_true, cond_true]
    have ssl : s.data.toList.length ≤ 200 := by rw [← size_list]; exact ss
    have hj := join_ok c.1 [ByteArray.mk (Array.mk [61]), w, s] (by simp) (by omega) (by rw [jt_cons, jt_cons, jt_cons, jt_nil, eq_list]; simp; omega)
    have hj' : g_strings_Join ([c.1, ByteArray.mk (Array.mk [61]), w] ++ [s]) (ByteArray.mk (Array.mk [32])) = _ := hj
    rw [hj']
    refine ⟨_, rfl, ?_⟩
    rw [mk_list, if_pos k1, jt_cons, jt_cons, jt_cons, jt_nil, eq_list, hs']
    simp
  · rw [show (c.2.1 == 1) = false by simp [k1], cond_false, if_neg k1]
    by_cases k2 : c.2.1 = 2
    · obtain ⟨s, hs, hs', ss⟩ := impl_ln _ h9
      rw [show (c.2.1 == 2) = true by simp [k2], cond_true, hs, Option.bind_some, h10 (by omega)]
      simp only [List.append_nil, List.length_cons, List.length_nil]
      rw [dec_t (by omega), dec_t (by omega), cond_true, cond_true]
      have ssl : s.data.toList.length ≤ 200 := by rw [← size_list]; exact ss
      have hj := join_ok c.1 [ByteArray.mk (Array.mk [61]), w, s] (by simp) (by omega) (by rw [jt_cons, jt_cons, jt_cons, jt_nil, eq_list]; simp; omega)
      have hj' : g_strings_Join ([c.1, ByteArray.mk (Array.mk [61]), w] ++ [s]) (ByteArray.mk (Array.mk [32])) = _ := hj
      rw [hj']
      refine ⟨_, rfl, ?_⟩
      rw [mk_list, if_pos k2, jt_cons, jt_cons, jt_cons, jt_nil, eq_list, hs']
      simp
    · rw [show (c.2.1 == 2) = false by simp [k2], cond_false, if_neg k2]
      cases hch : chB c.2.1.toNat
      · have hj := join_ok c.1 (ByteArray.mk (Array.mk [61]) :: w :: c.2.2.1) (by simp; omega) (by omega) (by rw [jt_cons, jt_cons, eq_list]; simp; omega)
        have hj' : g_strings_Join ([c.1, ByteArray.mk (Array.mk [61]), w] ++ c.2.2.1) (ByteArray.mk (Array.mk [32])) = _ := hj
        rw [cond_false, hj']
        refine ⟨_, rfl, ?_⟩
        rw [mk_list, jt_cons, jt_cons, eq_list]
        simp
      · have hd := impl_dec (n := c.2.2.2.1) (by omega) (by omega)
        have sd := itoa_len (n := c.2.2.2.1) (by omega) (by omega)
        rw [cond_true, hd, Option.bind_some]
        simp only [List.length_append, List.length_cons, List.length_nil]
        rw [dec_t (by omega), dec_t (by omega), cond_true, cond_true]
        have hj := join_ok c.1 (ByteArray.mk (Array.mk [61]) :: w :: (c.2.2.1 ++ [ByteArray.mk (Lib.itoa c.2.2.2.1).toArray])) (by simp; omega) (by omega) (by rw [jt_cons, jt_cons, jt_app, jt_cons, jt_nil, eq_list, mk_list]; simp; omega)
        have hj' : g_strings_Join (([c.1, ByteArray.mk (Array.mk [61]), w] ++ c.2.2.1) ++ [ByteArray.mk (Lib.itoa c.2.2.2.1).toArray]) (ByteArray.mk (Array.mk [32])) = _ := hj
        rw [hj']
        refine ⟨_, rfl, ?_⟩
        rw [mk_list, jt_cons, jt_cons, jt_app, jt_cons, jt_nil, eq_list, mk_list]
        simp

theorem arg_text (k ch : Int) (nm : ByteArray) (p : Pt) (q : Ln) (l : List ByteArray) (hl : l.length ≤ 4) (hn : l.all nameB = true) : ∀ (r t : List ByteArray) (s : ByteArray), l = t ++ r → s.size ≤ 100 + 13 * t.length →
    ∃ s', w_spec_l24Text_8 (m_spec_l24Text_8 s ((t.length : Nat) : Int) nm k l ch p.1.1 p.1.2.1 p.1.2.2 p.2.1 p.2.2.1 p.2.2.2 q.1 q.2.1 q.2.2.1 q.2.2.2) =
      some (.inl (d_spec_l24Text_8_0 s' nm k l ch p.1.1 p.1.2.1 p.1.2.2 p.2.1 p.2.2.1 p.2.2.2 q.1 q.2.1 q.2.2.1 q.2.2.2)) ∧ s'.data.toList = s.data.toList ++ jt r ∧ s'.size ≤ 200
  | [], t, s, h, hs => by
    have : t.length ≤ 4 := by rw [h] at hl; simpa using hl
    refine ⟨s, ?_, by simp [jt_nil], by omega⟩
    rw [wq_spec_l24Text_8, u_spec_l24Text_8, lt_end h, cond_false]; rfl
  | x :: r, t, s, h, hs => by
    have hp := len_in h
    have sx := name_size (List.all_eq_true.1 hn x (by rw [h]; simp))
    rw [wq_spec_l24Text_8, u_spec_l24Text_8, lt_in h, cond_true, ix h, Option.bind_some, sz_small (by rw [one_size]; omega), cond_false, sz_small (by rw [app_size, one_size]; omega), cond_false, wr h (by omega)]
    obtain ⟨s', h1, h2, h3⟩ := arg_text k ch nm p q l hl hn r (t ++ [x]) (s ++ (ByteArray.mk (Array.mk [32]) ++ x)) (nxt h) (by rw [app_size, app_size, one_size]; simp; omega)
    refine ⟨s', h1, ?_, h3⟩
    rw [h2, app_list, app_list, sp_list, jt_cons]
    simp

theorem spec_ct (c : Cn) (h : validC c = true) (w : ByteArray) (ws : List ByteArray) (hws : g_spec_l24Words = some ws) (hw : idx ws c.2.1 = some w) (hch : g_spec_l24Chooses c.2.1 = some (chB c.2.1.toNat)) (sw : w.size ≤ 10) : ∃ s, g_spec_l24Text c = some s ∧ s.data.toList = conT c w := by
  obtain ⟨h1, h2, h3, h4, h5, h6, h7, h8, h9, h10⟩ := valid_inv h
  have sn := name_size h1
  rw [g_spec_l24Text, t_spec_l24Text, sz_small (by rw [seq_size]; omega), cond_false, hws, Option.bind_some, hw, Option.bind_some, sz_small (by rw [app_size, seq_size]; omega), cond_false]
  unfold conT
  have hb : ((c.1 ++ ByteArray.mk (Array.mk [32, 61, 32])) ++ w).size ≤ 100 := by rw [app_size, app_size, seq_size]; omega
  have hbl : ((c.1 ++ ByteArray.mk (Array.mk [32, 61, 32])) ++ w).data.toList = c.1.data.toList ++ (32 :: 61 :: 32 :: w.data.toList) := by
    rw [app_list, app_list, seq_list]; simp
  generalize ((c.1 ++ ByteArray.mk (Array.mk [32, 61, 32])) ++ w) = b at hb hbl
  by_cases k1 : c.2.1 = 1
  · obtain ⟨s, hs, hs', ss⟩ := spec_pt _ h8
    rw [show (c.2.1 == 1) = true by simp [k1], cond_true, sz_small (by rw [one_size]; omega), cond_false, hs, Option.bind_some, sz_small (by rw [app_size, one_size]; omega), cond_false]
    refine ⟨_, rfl, ?_⟩
    rw [if_pos k1, app_list, app_list, sp_list, hbl, hs']
    simp
  · rw [show (c.2.1 == 1) = false by simp [k1], cond_false, if_neg k1]
    by_cases k2 : c.2.1 = 2
    · obtain ⟨s, hs, hs', ss⟩ := spec_ln _ h9
      rw [show (c.2.1 == 2) = true by simp [k2], cond_true, sz_small (by rw [one_size]; omega), cond_false, hs, Option.bind_some, sz_small (by rw [app_size, one_size]; omega), cond_false]
      refine ⟨_, rfl, ?_⟩
      rw [if_pos k2, app_list, app_list, sp_list, hbl, hs']
      simp
    · rw [show (c.2.1 == 2) = false by simp [k2], cond_false, if_neg k2]
      obtain ⟨s', e1, e2, e3⟩ := arg_text c.2.1 c.2.2.2.1 c.1 c.2.2.2.2.1 c.2.2.2.2.2 c.2.2.1 h4 h5 c.2.2.1 [] b rfl (by simp; omega)
      have e1' : w_spec_l24Text_8 (m_spec_l24Text_8 b 0 c.1 c.2.1 c.2.2.1 c.2.2.2.1 c.2.2.2.2.1.1.1 c.2.2.2.2.1.1.2.1 c.2.2.2.2.1.1.2.2 c.2.2.2.2.1.2.1 c.2.2.2.2.1.2.2.1 c.2.2.2.2.1.2.2.2 c.2.2.2.2.2.1 c.2.2.2.2.2.2.1 c.2.2.2.2.2.2.2.1 c.2.2.2.2.2.2.2.2) = _ := e1
      have hd := spec_dec (n := c.2.2.2.1) (by omega) (by omega)
      have sd := itoa_size (n := c.2.2.2.1) (by omega) (by omega)
      rw [e1', Option.bind_some]
      show ∃ s, Option.bind (g_spec_l24Chooses c.2.1) (fun y => cond y (Option.bind (g_spec_l01Dec c.2.2.2.1) fun y2 => _) (some s')) = some s ∧ _
      rw [hch, Option.bind_some, hd, Option.bind_some]
      cases hc : chB c.2.1.toNat
      · refine ⟨s', rfl, ?_⟩
        rw [e2, hbl]
        simp
      · rw [cond_true, sz_small (by simp only [one_size]; omega), cond_false, sz_small (by simp only [app_size, one_size]; omega), cond_false]
        refine ⟨_, rfl, ?_⟩
        rw [app_list, app_list, sp_list, e2, hbl, mk_list]
        simp

theorem both_texts (c : Cn) (hm : c.1.size ≤ 9223372036854775807) (hl : c.2.2.1.length ≤ 1048576) (hn : ∀ x ∈ c.2.2.1, x.size ≤ 9223372036854775807) : ∃ s, g_spec_ConstructionText c = some s ∧ g_impl_ConstructionText c = some s := by
  rw [g_spec_ConstructionText, t_spec_ConstructionText, g_impl_ConstructionText, t_impl_ConstructionText, spec_con c hl, impl_con c hm hl hn, Option.bind_some, Option.bind_some]
  cases h : validC c
  · exact ⟨_, rfl, rfl⟩
  · obtain ⟨_, h2, h3, _⟩ := valid_inv h
    obtain ⟨w, f, ws, k1, k2, k3, k4, k5⟩ := kind_facts h2 h3
    obtain ⟨s, hs, hs'⟩ := impl_ct c h w f k1 k5
    obtain ⟨t, ht, ht'⟩ := spec_ct c h w ws k2 k3 k4 k5
    have e : s = t := ba_eq (hs'.trans ht'.symm)
    subst e
    rw [Bool.not_true, cond_false, cond_false, hs, ht]
    exact ⟨_, rfl, rfl⟩

theorem law_ConstructionText (c : Cn) (h1 : c.1.size ≤ 9223372036854775807) (h2 : c.2.2.1.length ≤ 9223372036854775807) (h3 : ∀ x ∈ c.2.2.1, x.size ≤ 9223372036854775807) : g_laws_FnExactConstructionText c = some true := by
  obtain ⟨y, hy, hc⟩ := szC_ok c h1 h2 h3
  rw [g_laws_FnExactConstructionText, t_laws_FnExactConstructionText, hy, Option.bind_some]
  by_cases h : y < 0
  · rw [dec_t h]; rfl
  · have hl : c.2.2.1.length ≤ 1048576 := by omega
    obtain ⟨s, hs, ht⟩ := both_texts c h1 hl h3
    rw [dec_f h, cond_false, toCon_id c hl, Option.bind_some, hs, Option.bind_some, Option.bind_some, ht, Option.bind_some, beq_self_eq_true, Bool.not_true, cond_false, Option.bind_some, eqCon_self c hl]; rfl
end Go.Proofs.YtjkljnflaifbhaaDoor
