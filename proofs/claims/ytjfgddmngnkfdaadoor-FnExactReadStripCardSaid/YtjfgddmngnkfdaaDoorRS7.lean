/- What ReadStrip answers. No conditions. -/
import Derived.Test.YtjfgddmngnkfdaaDoorRS6
namespace Go.Proofs.YtjfgddmngnkfdaaDoor
open Go.Vai

def Txt (s : ByteArray) (a : List Int × List Int) : Prop := okS a = true ∧ tS a.1 a.2 = s.data.toList
/-- What ReadStrip answers. -/
def Ans (s : ByteArray) (g : Option ((List Int × List Int) × Bool)) : Prop := (∃ a, Txt s a ∧ g = some (a, true)) ∨ ((∀ a, ¬ Txt s a) ∧ g = some (([], []), false))

theorem txt_spec {s : ByteArray} {a : List Int × List Int} (h : Txt s a) : ∃ n L1, specP s.data.toList 0 [] [] = some (n, L1, a.2) ∧ L1 ++ [n] = a.1 := by
  obtain ⟨k1, k2, k3, k4, k5⟩ := okS_inv h.1
  obtain ⟨n, L1, h1, h2⟩ := specP_tS a.2 a.1 [] [] k3 k4 k5
  rw [h.2] at h1
  exact ⟨n, L1, by simpa using h1, h2⟩

theorem txt_uniq {s : ByteArray} {a b : List Int × List Int} (ha : Txt s a) (hb : Txt s b) : a = b := by
  obtain ⟨n, L1, h1, h2⟩ := txt_spec ha
  obtain ⟨m, L2, h3, h4⟩ := txt_spec hb
  rw [h1] at h3
  cases a; cases b
  simp only [Option.some.injEq, Prod.mk.injEq] at h3
  obtain ⟨rfl, rfl, e⟩ := h3
  simp only at h2 h4 e
  rw [← h2, ← h4, e]

theorem spec_res (s : ByteArray) (hs : s.size ≤ 1048576) : Ans s (g_spec_ReadStrip s) := by
  rw [g_spec_ReadStrip, t_spec_ReadStrip]
  by_cases hl : s.size ≤ 70
  · rw [dec_f (p := ((s.size : Nat) : Int) > 70) (by omega), cond_false]
    obtain ⟨n', L', K', hw⟩ := spec_read s hl s.data.toList [] 0 [] [] rfl (by omega) (by omega) (by simp) (by simp)
    have hw' : w_spec_ReadStrip_7 (m_spec_ReadStrip_7 s 0 0 [] [] [] []) = _ := hw
    rw [hw']
    cases hp : specP s.data.toList 0 [] [] with
    | none =>
      right
      refine ⟨fun a ha => ?_, rfl⟩
      obtain ⟨n, L1, h1, _⟩ := txt_spec ha
      rw [hp] at h1; cases h1
    | some z =>
      obtain ⟨n, L, K⟩ := z
      have hlen := specP_len _ _ _ _ _ hp
      rw [← len_size] at hlen
      simp only [List.length_nil] at hlen
      have hu : ∀ a, Txt s a → a = (L ++ [n], K) := fun a ha => by
        obtain ⟨m, L1, h1, h2⟩ := txt_spec ha
        rw [hp] at h1
        simp only [Option.some.injEq, Prod.mk.injEq] at h1
        obtain ⟨rfl, rfl, e⟩ := h1
        cases a
        simp only at h2 e
        rw [h2, e]
      have hg : ∀ {R : Type} (x : Option R), cond (decide ((L.length + [n].length) * 8 ≤ 70368744177664)) (cond (decide ((L.length + [n].length) ≤ 70368744177664)) x none) none = x := fun x => by
        rw [dec_t (by simp; omega), dec_t (by simp; omega)]; rfl
      show Ans s (cond (decide ((L.length + [n].length) * 8 ≤ 70368744177664)) (cond (decide ((L.length + [n].length) ≤ 70368744177664)) (Option.bind (g_spec_l25Ok (L ++ [n], K)) fun y62 =>
        cond (!y62) (some (([], []), false)) (Option.bind (g_spec_l25Text (L ++ [n], K)) fun y81 => cond (!((ByteArray.toList y81) == (ByteArray.toList s))) (some (([], []), false)) (some ((L ++ [n], K), true)))) none) none)
      rw [hg, spec_ok _ (by simp; omega) (by simp; omega), Option.bind_some]
      cases hok : okS (L ++ [n], K)
      · right
        refine ⟨fun a ha => ?_, rfl⟩
        have e := hu a ha
        have := ha.1
        rw [e, hok] at this; cases this
      · obtain ⟨t, h1, h2⟩ := spec_txt hok
        rw [h1]
        simp only [Bool.not_true, cond_false, Option.bind_some, Lib.toList_data, h2]
        by_cases he : tS (L ++ [n]) K = s.data.toList
        · left
          refine ⟨(L ++ [n], K), ⟨hok, he⟩, ?_⟩
          rw [he]; simp
        · right
          refine ⟨fun a ha => ?_, ?_⟩
          · have e := hu a ha
            have := ha.2
            rw [e] at this
            exact he this
          · have : (tS (L ++ [n]) K == s.data.toList) = false := by rw [beq_eq_false_iff_ne]; exact he
            rw [this]; rfl
  · right
    refine ⟨fun a ha => ?_, ?_⟩
    · obtain ⟨k1, k2, k3, k4, k5⟩ := okS_inv ha.1
      have := tS_len a.1 a.2 k4
      rw [ha.2, ← len_size] at this
      omega
    · rw [dec_t (p := ((s.size : Nat) : Int) > 70) (by omega)]; rfl

/-! the engine reads -/
def numL (l : List UInt8) : Int := (numRes ⟨l.toArray⟩).1
noncomputable def implP : Nat → List UInt8 → List Int → List Int → Option (List Int × List Int)
  | 0, _, _, _ => none
  | N + 1, l, L, K => if Lib.indexAny l [77, 86] < 0 then some (L ++ [numL l], K) else
      match l[(Lib.indexAny l [77, 86]).toNat]? with
      | none => none
      | some c => implP N (l.drop ((Lib.indexAny l [77, 86]).toNat + 1)) (L ++ [numL (l.take (Lib.indexAny l [77, 86]).toNat)]) (K ++ [Lib.indexByte [66, 77, 86, 79] c + 1])

theorem any_lt : ∀ (l : List UInt8), 0 ≤ Lib.indexAny l [77, 86] → (Lib.indexAny l [77, 86]).toNat < l.length
  | [], h => by simp [Lib.indexAny] at h
  | c :: r, h => by
    unfold Lib.indexAny at h ⊢
    split
    · simp
    · rename_i hc
      rw [if_neg hc] at h
      split
      · rename_i h1; rw [if_pos h1] at h; omega
      · rename_i h1
        rw [if_neg h1] at h
        have := Lib.indexAny_ge [77, 86] r
        have h2 : ¬ Lib.indexAny r [77, 86] = -1 := fun e => h1 (by rw [e]; rfl)
        have := any_lt r (by omega)
        simp only [List.length_cons]; omega

theorem implP_some : ∀ (N : Nat) (l : List UInt8) (L K : List Int), l.length < N → ∃ z, implP N l L K = some z ∧ z.1.length ≤ L.length + l.length + 1 ∧ z.2.length ≤ K.length + l.length
  | 0, l, L, K, h => by omega
  | N + 1, l, L, K, h => by
    rw [implP]
    by_cases h0 : Lib.indexAny l [77, 86] < 0
    · rw [if_pos h0]; exact ⟨_, rfl, by simp, by simp⟩
    · rw [if_neg h0]
      have hlt := any_lt l (by omega)
      rw [List.getElem?_eq_getElem hlt]
      obtain ⟨z, h1, h2, h3⟩ := implP_some N (l.drop ((Lib.indexAny l [77, 86]).toNat + 1)) (L ++ [numL (l.take (Lib.indexAny l [77, 86]).toNat)]) (K ++ [Lib.indexByte [66, 77, 86, 79] (l[(Lib.indexAny l [77, 86]).toNat]'hlt) + 1]) (by rw [List.length_drop]; omega)
      refine ⟨z, h1, ?_, ?_⟩
      · simp only [List.length_append, List.length_singleton, List.length_drop] at h2; omega
      · simp only [List.length_append, List.length_singleton, List.length_drop] at h3; omega

theorem idxB_get {s : ByteArray} {i : Int} {c : UInt8} (h0 : 0 ≤ i) (h : s.data.toList[i.toNat]? = some c) : idxB s i = some c := by
  have hlt : i.toNat < s.size := by
    have := (List.getElem?_eq_some_iff.1 h).1
    rw [len_size]; exact this
  unfold idxB
  rw [if_pos h0, getElem?_pos s i.toNat hlt]
  rw [← h, Array.getElem?_toList, Array.getElem?_eq_getElem (by exact hlt)]
  rfl

theorem ext_take (s : ByteArray) (j : Nat) : (ByteArray.extract s 0 j).data.toList = s.data.toList.take j := by
  rw [ByteArray.data_extract, Array.toList_extract]; simp [List.extract]
theorem ext_drop (s : ByteArray) (j : Nat) : (ByteArray.extract s j s.size).data.toList = s.data.toList.drop j := by
  rw [ByteArray.data_extract, Array.toList_extract]
  simp only [List.extract]
  rw [List.take_of_length_le (by rw [List.length_drop, ← len_size]; exact Nat.le_refl _)]
theorem num_of (s : ByteArray) : (numRes s).1 = numL s.data.toList := by
  unfold numL
  rw [show (ByteArray.mk s.data.toList.toArray) = s by apply ba_eq; simp]

theorem byte_bd (c : UInt8) : -1 ≤ Lib.indexByte [66, 77, 86, 79] c ∧ Lib.indexByte [66, 77, 86, 79] c ≤ 3 := by
  simp only [Lib.indexByte]
  repeat' split
  all_goals simp_all

theorem impl_read (s0 : ByteArray) : ∀ (N : Nat) (s : ByteArray) (L K : List Int) (z : List Int × List Int), implP N s.data.toList L K = some z → s.size ≤ 1048576 → L.length + s.size ≤ 1048576 → K.length + s.size ≤ 1048576 →
    w_impl_ReadStrip_4 (m_impl_ReadStrip_4 s0 s [] [] L K) = some (.inl (d_impl_ReadStrip_4_0 s0 [] [] z.1 z.2))
  | 0, s, L, K, z, h, _, _, _ => by cases h
  | N + 1, s, L, K, z, h, hs, hL, hK => by
    have g1 : ∀ x : Int, decide ((L.length + [x].length) * 8 ≤ 70368744177664) = true := fun x => dec_t (by simp; omega)
    have g2 : ∀ x : Int, decide ((L.length + [x].length) ≤ 70368744177664) = true := fun x => dec_t (by simp; omega)
    have g3 : ∀ x : Int, decide ((K.length + [x].length) * 8 ≤ 70368744177664) = true := fun x => dec_t (by simp; omega)
    have g4 : ∀ x : Int, decide ((K.length + [x].length) ≤ 70368744177664) = true := fun x => dec_t (by simp; omega)
    have hia : g_strings_IndexAny s (ByteArray.mk (Array.mk [77, 86])) = some (Lib.indexAny s.data.toList [77, 86]) := by
      unfold g_strings_IndexAny
      rw [if_pos ⟨by omega, rfl⟩]
    have hrn : ∀ t : ByteArray, t.size ≤ 1048576 → g_impl_readNumber t = some (numRes t) := fun t ht => by
      unfold g_impl_readNumber
      rw [if_pos (by omega)]
    rw [implP] at h
    rw [wq_impl_ReadStrip_4, u_impl_ReadStrip_4, hia, Option.bind_some]
    by_cases h0 : Lib.indexAny s.data.toList [77, 86] < 0
    · rw [if_pos h0] at h
      cases h
      rw [dec_t h0, cond_true, hrn s hs]
      simp only [Option.bind_some, g1, g2, cond_true, num_of]
      rfl
    · rw [if_neg h0] at h
      have hlt := any_lt s.data.toList (by omega)
      rw [List.getElem?_eq_getElem hlt] at h
      have hc := List.getElem?_eq_getElem hlt
      generalize s.data.toList[(Lib.indexAny s.data.toList [77, 86]).toNat] = c at h hc
      simp only at h
      have hi0 : 0 ≤ Lib.indexAny s.data.toList [77, 86] := by omega
      have hsz := hlt
      rw [← len_size] at hsz
      have hext := ext_take s (Lib.indexAny s.data.toList [77, 86]).toNat
      have hexl : (ByteArray.extract s 0 (Lib.indexAny s.data.toList [77, 86]).toNat).size ≤ 1048576 := by
        rw [len_size, hext, List.length_take, ← len_size]; omega
      have hbb := byte_bd c
      have hib : g_strings_IndexByte (ByteArray.mk (Array.mk [66, 77, 86, 79])) ((c.toNat : Nat) : Int) = some (Lib.indexByte [66, 77, 86, 79] c) := by
        unfold g_strings_IndexByte
        have hcl := c.toNat_lt
        rw [if_pos ⟨by omega, by omega, by show 4 ≤ _; omega⟩]
        congr 1
        show Lib.indexByte [66, 77, 86, 79] _ = _
        congr 1
        simp
      rw [dec_f h0, cond_false, dec_t hi0, cond_true, dec_t (by omega), cond_true, hrn _ hexl]
      simp only [Option.bind_some, g1, g2, cond_true, idxB_get hi0 hc, hib, g3, g4, num_of, hext]
      rw [wrap_id (n := Lib.indexAny s.data.toList [77, 86] + 1) (by omega) (by omega), wrap_id (n := Lib.indexByte [66, 77, 86, 79] c + 1) (by omega) (by omega), dec_t (by omega), cond_true, dec_t (by omega), cond_true]
      have ed := ext_drop s ((Lib.indexAny s.data.toList [77, 86]).toNat + 1)
      rw [show (Lib.indexAny s.data.toList [77, 86] + 1).toNat = (Lib.indexAny s.data.toList [77, 86]).toNat + 1 by omega]
      have esz : (ByteArray.extract s ((Lib.indexAny s.data.toList [77, 86]).toNat + 1) s.size).size = s.size - ((Lib.indexAny s.data.toList [77, 86]).toNat + 1) := by
        rw [len_size, ed, List.length_drop, ← len_size]
      exact impl_read s0 N _ _ _ z (by rw [ed]; exact h) (by omega) (by rw [esz]; simp; omega) (by rw [esz]; simp; omega)

theorem any_skip : ∀ (a : List UInt8) (c : UInt8) (r : List UInt8), (∀ x ∈ a, isD x = true) → (c = 77 ∨ c = 86) → Lib.indexAny (a ++ c :: r) [77, 86] = (a.length : Int)
  | [], c, r, _, hc => by
    rw [List.nil_append, Lib.indexAny, if_pos (by rcases hc with rfl | rfl <;> decide)]; rfl
  | x :: a, c, r, ha, hc => by
    have hx := ha x (by simp)
    have hne : ([77, 86] : List UInt8).contains x = false := by
      by_cases h7 : x = 77
      · subst h7; exact absurd hx (by decide)
      · by_cases h8 : x = 86
        · subst h8; exact absurd hx (by decide)
        · simp [h7, h8]
    have IH := any_skip a c r (fun y hy => ha y (by simp [hy])) hc
    rw [List.cons_append, Lib.indexAny, hne, IH]
    have : ((a.length : Int) == -1) = false := by rw [beq_eq_false_iff_ne]; omega
    rw [this]; simp

theorem any_none : ∀ (a : List UInt8), (∀ x ∈ a, isD x = true) → Lib.indexAny a [77, 86] = -1
  | [], _ => rfl
  | x :: a, ha => by
    have hx := ha x (by simp)
    have hne : ([77, 86] : List UInt8).contains x = false := by
      by_cases h7 : x = 77
      · subst h7; exact absurd hx (by decide)
      · by_cases h8 : x = 86
        · subst h8; exact absurd hx (by decide)
        · simp [h7, h8]
    have IH := any_none a (fun y hy => ha y (by simp [hy]))
    rw [Lib.indexAny, hne, IH]
    rfl

theorem itoa_dig {n : Int} (h0 : 1 ≤ n) (h1 : n ≤ 1000) : ∀ x ∈ Lib.itoa n, isD x = true := by
  obtain ⟨u, rfl⟩ : ∃ u : Nat, n = (u : Int) := ⟨n.toNat, by omega⟩
  rw [Lib.itoa_nonneg]
  exact dd_all 3 u (by omega)

theorem implP_tS : ∀ (K L L0 K0 : List Int) (N : Nat), K.length + 1 = L.length → L.all P1 = true → K.all P2 = true → L.length ≤ N → implP N (tS L K) L0 K0 = some (L0 ++ L, K0 ++ K)
  | [], [n], L0, K0, 0, _, _, _, hN => by simp at hN
  | [], [n], L0, K0, N + 1, _, hL, _, _ => by
    have hn := P1_iff (List.all_eq_true.1 hL n (by simp))
    rw [implP, tS, tS, List.append_nil, any_none _ (itoa_dig hn.1 hn.2), if_pos (by omega)]
    rw [show numL (Lib.itoa n) = n from num_itoa hn.1 hn.2]; simp
  | [], [], L0, K0, N, h, _, _, _ => by simp at h
  | [], _ :: _ :: _, L0, K0, N, h, _, _, _ => by simp at h
  | _ :: _, [], L0, K0, N, h, _, _, _ => by simp at h
  | k :: ks, n :: r, L0, K0, 0, _, _, _, hN => by simp at hN
  | k :: ks, n :: r, L0, K0, N + 1, h, hL, hK, hN => by
    have hn := P1_iff (List.all_eq_true.1 hL n (by simp))
    have hk := P2_iff (List.all_eq_true.1 hK k (by simp))
    have hl : letter k = 77 ∨ letter k = 86 := by rcases hk with rfl | rfl <;> decide
    have IH := implP_tS ks r (L0 ++ [n]) (K0 ++ [k]) N (by simpa using h) (by simp at hL ⊢; exact hL.2) (by simp at hK ⊢; exact hK.2) (by simpa using hN)
    rw [implP, tS, any_skip _ _ _ (itoa_dig hn.1 hn.2) hl, if_neg (by omega), Int.toNat_natCast, List.getElem?_append_right (Nat.le_refl _), Nat.sub_self]
    rw [List.getElem?_cons_zero]
    show implP N _ _ _ = _
    rw [List.take_left' rfl, show numL (Lib.itoa n) = n from num_itoa hn.1 hn.2]
    rw [show List.drop ((Lib.itoa n).length + 1) (Lib.itoa n ++ letter k :: tS r ks) = tS r ks by
      rw [List.drop_append]; simp]
    rw [show Lib.indexByte [66, 77, 86, 79] (letter k) + 1 = k by rcases hk with rfl | rfl <;> decide, IH]
    simp

theorem impl_res (s : ByteArray) (hs : s.size ≤ 1048576) : Ans s (g_impl_ReadStrip s) := by
  obtain ⟨⟨L, K⟩, hp, h1, h2⟩ := implP_some (s.size + 15) s.data.toList [] [] (by rw [← len_size]; omega)
  rw [← len_size] at h1 h2
  simp only [List.length_nil] at h1 h2
  have hw := impl_read s (s.size + 15) s [] [] (L, K) hp hs (by simpa using hs) (by simpa using hs)
  have hu : ∀ a, Txt s a → a = (L, K) := fun a ha => by
    obtain ⟨k1, k2, k3, k4, k5⟩ := okS_inv ha.1
    have := implP_tS a.2 a.1 [] [] (s.size + 15) k3 k4 k5 (by omega)
    rw [ha.2, hp] at this
    simp only [List.nil_append, Option.some.injEq] at this
    exact this.symm
  rw [g_impl_ReadStrip, t_impl_ReadStrip, hw]
  show Ans s (Option.bind (g_impl_ValidStrip (L, K)) fun y147 => cond (!y147) (some (([], []), false)) (Option.bind (g_impl_stripText (L, K)) fun y164 => cond (!((ByteArray.toList y164) == (ByteArray.toList s))) (some (([], []), false)) (some ((L, K), true))))
  rw [impl_ok _ (by simp only; omega) (by simp only; omega), Option.bind_some]
  cases hok : okS (L, K)
  · right
    refine ⟨fun a ha => ?_, rfl⟩
    have e := hu a ha
    have := ha.1
    rw [e, hok] at this; cases this
  · obtain ⟨t, h3, h4⟩ := impl_txt hok
    rw [h3]
    simp only [Bool.not_true, cond_false, Option.bind_some, Lib.toList_data, h4]
    by_cases he : tS L K = s.data.toList
    · left
      refine ⟨(L, K), ⟨hok, he⟩, ?_⟩
      rw [he]; simp
    · right
      refine ⟨fun a ha => ?_, ?_⟩
      · have e := hu a ha
        have := ha.2
        rw [e] at this
        exact he this
      · have : (tS L K == s.data.toList) = false := by rw [beq_eq_false_iff_ne]; exact he
        rw [this]; rfl

theorem read_same (s : ByteArray) (hs : s.size ≤ 1048576) : ∃ r : (List Int × List Int) × Bool, g_spec_ReadStrip s = some r ∧ g_impl_ReadStrip s = some r ∧ r.1.1.length ≤ 14 ∧ r.1.2.length ≤ 14 := by
  rcases spec_res s hs with ⟨a, ha, h1⟩ | ⟨h0, h1⟩
  · obtain ⟨k1, k2, k3, k4, k5⟩ := okS_inv ha.1
    rcases impl_res s hs with ⟨b, hb, h2⟩ | ⟨h0, h2⟩
    · rw [txt_uniq hb ha] at h2
      exact ⟨_, h1, h2, k2, by show a.2.length ≤ 14; omega⟩
    · exact absurd ha (h0 a)
  · rcases impl_res s hs with ⟨b, hb, h2⟩ | ⟨_, h2⟩
    · exact absurd hb (h0 b)
    · exact ⟨_, h1, h2, by simp, by simp⟩

end Go.Proofs.YtjfgddmngnkfdaaDoor
