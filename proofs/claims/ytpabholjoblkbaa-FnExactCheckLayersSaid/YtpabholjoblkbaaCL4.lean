/- Permutations and layers, plain. No conditions. -/
import Derived.Test.YtpabholjoblkbaaCL3
namespace Go.Proofs.Ytpabholjoblkbaa
open Go.Vai
/-! loops that look for a fault -/
theorem all_loop {β : Type} {W : Nat → Option β} {n : Nat} {P : Nat → Bool} {e0 e1 : β} (hn : W n = some e1) (hi : ∀ i, i < n → W i = cond (P i) (W (i + 1)) (some e0)) :
    W 0 = some (cond ((List.range n).all P) e1 e0) := by
  have h : ∀ m k, m + k = n → W m = some (cond ((List.range' m k).all P) e1 e0) := by
    intro m k
    induction k generalizing m with
    | zero => intro h; have : m = n := by omega
              subst this; exact hn
    | succ k ih =>
      intro h
      rw [hi m (by omega), List.range'_succ, List.all_cons]
      cases hp : P m
      · rfl
      · rw [cond_true, ih (m + 1) (by omega), Bool.true_and]
  rw [h 0 n (by omega), List.range_eq_range']

theorem ixg {l : List Int} {i : Nat} (h : i < l.length) : idx l ((i : Nat) : Int) = some (l.getD i 0) := by
  rw [idx_nat, List.getD_eq_getElem?_getD, List.getElem?_eq_getElem h]; rfl
theorem w1 {i : Nat} (h : i ≤ 1073741824) : IntKind.wrap .i64 (((i : Nat) : Int) + 1) = ((i + 1 : Nat) : Int) := by
  rw [wrap_id (by omega) (by omega)]; omega
theorem wz {i k : Nat} (h : i ≤ 1073741824) (h' : k ≤ 1073741824) : IntKind.wrap .i64 (((i : Nat) : Int) - ((k : Nat) : Int)) = (i : Int) - (k : Int) := by
  rw [wrap_id (by omega) (by omega)]

/-! between -/
def btw (x a b : Int) : Bool := decide (min a b < x) && decide (x < max a b)
theorem btwS (x a b : Int) : g_spec_l25Between x a b = some (btw x a b) := by
  have e1 : g_spec_l00Min a b = some (min a b) := by
    rw [g_spec_l00Min, t_spec_l00Min]
    by_cases h : a < b
    · rw [dec_t h, cond_true, Int.min_eq_left (by omega)]
    · rw [dec_f h, cond_false, Int.min_eq_right (by omega)]
  have e2 : g_spec_l00Max a b = some (max a b) := by
    rw [g_spec_l00Max, t_spec_l00Max]
    by_cases h : a > b
    · rw [dec_t h, cond_true, Int.max_eq_left (by omega)]
    · rw [dec_f h, cond_false, Int.max_eq_right (by omega)]
  rw [g_spec_l25Between, t_spec_l25Between, e1, Option.bind_some, e2, Option.bind_some]
  unfold btw
  by_cases h : min a b < x
  · rw [dec_t h]; rfl
  · rw [dec_f h]; rfl
theorem minI (a b : Int) : (if (Bool.false = Bool.true) then (if (b > a) then b else a) else (if (b < a) then b else a)) = min a b := by
  rw [if_neg (by simp)]
  by_cases h : b < a
  · rw [if_pos h, Int.min_eq_right (by omega)]
  · rw [if_neg h, Int.min_eq_left (by omega)]
theorem maxI (a b : Int) : (if (Bool.true = Bool.true) then (if (b > a) then b else a) else (if (b < a) then b else a)) = max a b := by
  rw [if_pos rfl]
  by_cases h : b > a
  · rw [if_pos h, Int.max_eq_right (by omega)]
  · rw [if_neg h, Int.max_eq_left (by omega)]
theorem maxI' (a b : Int) : (if True then (if (b > a) then b else a) else (if (b < a) then b else a)) = max a b := maxI a b
theorem btwI (x a b : Int) : g_impl_isAmong x a b = some (btw x a b) := by
  rw [g_impl_isAmong, t_impl_isAmong]
  simp only [minI, maxI']
  unfold btw
  cases decide (min a b < x) <;> rfl

/-! rules of a crease -/
section
variable (K at' o : List Int)
def kdB (i : Nat) : Bool := (K.getD i 0 == 3) == ((Int.tmod (i : Int) 2 == 0) == decide (o.getD i 0 < o.getD (i + 1) 0))
def ncB (i k : Nat) : Bool := k == i || (k == i + 1 || !(btw (at'.getD (i + 1) 0) (at'.getD k 0) (at'.getD (k + 1) 0) && btw (o.getD k 0) (o.getD i 0) (o.getD (i + 1) 0)))
def meetB (i k : Nat) : Bool := at'.getD (k + 1) 0 == at'.getD (i + 1) 0 && Int.tmod ((k : Int) - (i : Int)) 2 == 0
def agB (i k : Nat) : Bool := btw (o.getD k 0) (o.getD i 0) (o.getD (i + 1) 0) == btw (o.getD (k + 1) 0) (o.getD i 0) (o.getD (i + 1) 0)
def crB (i k : Nat) : Bool := !meetB at' i k || agB o i k
def foldB : Bool := (List.range K.length).all fun i => kdB K o i && ((List.range o.length).all (ncB at' o i) && (List.range i).all fun k => crB at' o i k && crB at' o k i)
def layB : Bool := (List.range K.length).all fun i => kdB K o i && ((List.range o.length).all (ncB at' o i) && (List.range K.length).all fun k => k == i || crB at' o i k)
end

theorem tmod_sym (i k : Nat) : (Int.tmod ((k : Int) - (i : Int)) 2 == 0) = (Int.tmod ((i : Int) - (k : Int)) 2 == 0) := by
  rw [show (k : Int) - i = -((i : Int) - k) by omega, Int.neg_tmod]
  generalize Int.tmod ((i : Int) - k) 2 = z
  by_cases h : z = 0
  · subst h; rfl
  · have h1 : ¬ -z = 0 := by omega
    rw [show (z == 0) = false by simp [h], show (-z == 0) = false by simp; omega]

theorem meet_sym (at' : List Int) (i k : Nat) : meetB at' i k = meetB at' k i := by
  unfold meetB
  rw [tmod_sym, Bool.beq_comm]

theorem fold_lay (K at' o : List Int) : foldB K at' o = layB K at' o := by
  rw [Bool.eq_iff_iff]
  unfold foldB layB
  simp only [List.all_eq_true, List.mem_range, Bool.and_eq_true, Bool.or_eq_true, beq_iff_eq]
  constructor
  · intro h i hi
    refine ⟨(h i hi).1, (h i hi).2.1, fun k hk => ?_⟩
    by_cases he : k = i
    · exact .inl he
    · right
      by_cases hl : k < i
      · exact ((h i hi).2.2 k hl).1
      · exact ((h k hk).2.2 i (by omega)).2
  · intro h i hi
    refine ⟨(h i hi).1, (h i hi).2.1, fun k hk => ⟨?_, ?_⟩⟩
    · rcases (h i hi).2.2 k (by omega) with e | e
      · omega
      · exact e
    · rcases (h k (by omega)).2.2 i hi with e | e
      · omega
      · exact e

/-! the two programs' rules -/
section
variable {K at' o : List Int} (L : List Int) (hK : K.length + 1 = o.length) (hA : at'.length = o.length + 1) (ho : o.length ≤ 14)

theorem beq_nat {a b : Nat} : (((a : Nat) : Int) == ((b : Nat) : Int)) = (a == b) := by
  by_cases h : a = b
  · subst h; simp
  · rw [show (a == b) = false from by simpa using h]; simp; omega
theorem bne_nat {a b : Nat} : (((a : Nat) : Int) != ((b : Nat) : Int)) = !(a == b) := by
  rw [bne_int]
  by_cases h : a = b
  · subst h; simp
  · have : ¬ ((a : Int) = b) := by omega
    simp [h, this]

theorem nc_step {at' o : List Int} (i k : Nat) {R : Type} (x y : Option R) :
    cond (((k : Nat) : Int) != ((i : Nat) : Int)) (cond (((k : Nat) : Int) != ((i + 1 : Nat) : Int)) (cond (btw (at'.getD (i + 1) 0) (at'.getD k 0) (at'.getD (k + 1) 0)) (cond (btw (o.getD k 0) (o.getD i 0) (o.getD (i + 1) 0)) x y) y) y) y = cond (ncB at' o i k) y x := by
  rw [bne_nat, bne_nat]
  unfold ncB
  cases k == i
  · cases k == i + 1
    · cases btw (at'.getD (i + 1) 0) (at'.getD k 0) (at'.getD (k + 1) 0)
      · rfl
      · cases btw (o.getD k 0) (o.getD i 0) (o.getD (i + 1) 0) <;> rfl
    · rfl
  · rfl

include hK hA ho in
theorem ncS (i : Nat) (hi : i < K.length) : w_spec_l25Crease_5 (m_spec_l25Crease_5 at' o (i : Int) (o.getD i 0) (o.getD (i + 1) 0) 0 L K) =
    some (cond ((List.range o.length).all (ncB at' o i)) (.inr (.inl (d_spec_l25Crease_5_1 at' o (i : Int) (o.getD i 0) (o.getD (i + 1) 0) L K))) (.inl (d_spec_l25Crease_5_0 at' o (i : Int) false (o.getD i 0) (o.getD (i + 1) 0) L K))) := by
  refine all_loop (W := fun k => w_spec_l25Crease_5 (m_spec_l25Crease_5 at' o (i : Int) (o.getD i 0) (o.getD (i + 1) 0) (k : Int) L K)) ?_ ?_
  · rw [wq_spec_l25Crease_5, u_spec_l25Crease_5, dec_f (by omega), cond_false]; rfl
  · intro k hk
    rw [wq_spec_l25Crease_5, u_spec_l25Crease_5, dec_t (by omega), cond_true, w1 (by omega), w1 (by omega)]
    simp only [ixg (l := at') (i := i + 1) (by omega), ixg (l := at') (i := k) (by omega), ixg (l := at') (i := k + 1) (by omega), ixg (l := o) (i := k) (by omega), Option.bind_some, btwS]
    exact nc_step i k _ _

include hK hA ho in
theorem ncI (i : Nat) (hi : i < K.length) : w_impl_Strip_isRightCrease_7 (m_impl_Strip_isRightCrease_7 at' o (i : Int) (o.getD i 0) (o.getD (i + 1) 0) (at'.getD (i + 1) 0) ((o.length : Nat) : Int) 0) =
    some (cond ((List.range o.length).all (ncB at' o i)) (.inr (.inl (d_impl_Strip_isRightCrease_7_1 at' o (i : Int) (o.getD i 0) (o.getD (i + 1) 0) (at'.getD (i + 1) 0)))) (.inl (d_impl_Strip_isRightCrease_7_0 at' o (i : Int) false (o.getD i 0) (o.getD (i + 1) 0) (at'.getD (i + 1) 0)))) := by
  refine all_loop (W := fun k => w_impl_Strip_isRightCrease_7 (m_impl_Strip_isRightCrease_7 at' o (i : Int) (o.getD i 0) (o.getD (i + 1) 0) (at'.getD (i + 1) 0) ((o.length : Nat) : Int) (k : Int))) ?_ ?_
  · rw [wq_impl_Strip_isRightCrease_7, u_impl_Strip_isRightCrease_7, dec_f (by omega), cond_false]; rfl
  · intro k hk
    rw [wq_impl_Strip_isRightCrease_7, u_impl_Strip_isRightCrease_7, dec_t (by omega), cond_true, w1 (by omega), w1 (by omega)]
    simp only [ixg (l := at') (i := k) (by omega), ixg (l := at') (i := k + 1) (by omega), ixg (l := o) (i := k) (by omega), Option.bind_some, btwI, minI, maxI']
    refine Eq.trans ?_ (nc_step i k _ _)
    generalize hy : w_impl_Strip_isRightCrease_7 _ = y
    unfold btw
    cases (((k : Nat) : Int) != ((i : Nat) : Int))
    · rfl
    · cases (((k : Nat) : Int) != ((i + 1 : Nat) : Int))
      · rfl
      · simp only [cond_true]
        cases decide (min (at'.getD k 0) (at'.getD (k + 1) 0) < at'.getD (i + 1) 0)
        · rfl
        · cases decide (at'.getD (i + 1) 0 < max (at'.getD k 0) (at'.getD (k + 1) 0)) <;> rfl

include hK hA ho in
theorem crS (i : Nat) (hi : i < K.length) : w_spec_l25Crease_10 (m_spec_l25Crease_10 at' o (i : Int) (o.getD i 0) (o.getD (i + 1) 0) 0 L K) =
    some (cond ((List.range K.length).all fun k => k == i || crB at' o i k) (.inr (.inl d_spec_l25Crease_10_1)) (.inl (d_spec_l25Crease_10_0 false))) := by
  refine all_loop (W := fun k => w_spec_l25Crease_10 (m_spec_l25Crease_10 at' o (i : Int) (o.getD i 0) (o.getD (i + 1) 0) (k : Int) L K)) ?_ ?_
  · rw [wq_spec_l25Crease_10, u_spec_l25Crease_10, dec_f (by omega), cond_false]; rfl
  · intro k hk
    rw [wq_spec_l25Crease_10, u_spec_l25Crease_10, dec_t (by omega), cond_true, w1 (by omega), w1 (by omega), wz (by omega) (by omega)]
    simp only [ixg (l := at') (i := i + 1) (by omega), ixg (l := at') (i := k + 1) (by omega), ixg (l := o) (i := k) (by omega), ixg (l := o) (i := k + 1) (by omega), Option.bind_some, btwS]
    rw [beq_nat]
    generalize hy : w_spec_l25Crease_10 _ = y
    unfold crB meetB agB
    cases k == i
    · simp only [cond_false, Bool.false_or, bne]
      cases (at'.getD (k + 1) 0 == at'.getD (i + 1) 0)
      · rfl
      · cases (Int.tmod ((k : Int) - (i : Int)) 2 == 0)
        · rfl
        · cases (btw (o.getD k 0) (o.getD i 0) (o.getD (i + 1) 0) == btw (o.getD (k + 1) 0) (o.getD i 0) (o.getD (i + 1) 0)) <;> rfl
    · rfl

include hK hA ho in
theorem crI (i : Nat) (hi : i < K.length) : w_impl_Strip_isRightCrease_13 (m_impl_Strip_isRightCrease_13 at' o (i : Int) (o.getD i 0) (o.getD (i + 1) 0) (at'.getD (i + 1) 0) (i : Int) 0) =
    some (cond ((List.range i).all fun k => crB at' o i k && crB at' o k i) (.inr (.inl d_impl_Strip_isRightCrease_13_1)) (.inl (d_impl_Strip_isRightCrease_13_0 false))) := by
  refine all_loop (W := fun k => w_impl_Strip_isRightCrease_13 (m_impl_Strip_isRightCrease_13 at' o (i : Int) (o.getD i 0) (o.getD (i + 1) 0) (at'.getD (i + 1) 0) (i : Int) (k : Int))) ?_ ?_
  · rw [wq_impl_Strip_isRightCrease_13, u_impl_Strip_isRightCrease_13, dec_f (by omega), cond_false]; rfl
  · intro k hk
    rw [wq_impl_Strip_isRightCrease_13, u_impl_Strip_isRightCrease_13, dec_t (by omega), cond_true, w1 (by omega), wz (by omega) (by omega)]
    simp only [ixg (l := at') (i := k + 1) (by omega), ixg (l := o) (i := k) (by omega), ixg (l := o) (i := k + 1) (by omega), Option.bind_some, btwI]
    rw [bne_nat, show (k == i) = false by simp; omega]
    generalize hy : w_impl_Strip_isRightCrease_13 _ = y
    unfold crB
    rw [meet_sym at' k i]
    unfold meetB agB
    cases (at'.getD (k + 1) 0 == at'.getD (i + 1) 0)
    · rfl
    · cases (Int.tmod ((k : Int) - (i : Int)) 2 == 0)
      · rfl
      · cases (btw (o.getD k 0) (o.getD i 0) (o.getD (i + 1) 0) == btw (o.getD (k + 1) 0) (o.getD i 0) (o.getD (i + 1) 0))
        · rfl
        · cases (btw (o.getD i 0) (o.getD k 0) (o.getD (k + 1) 0) == btw (o.getD (i + 1) 0) (o.getD k 0) (o.getD (k + 1) 0)) <;> rfl

include hK hA ho in
theorem creaseS (i : Nat) (hi : i < K.length) : g_spec_l25Crease (L, K) at' o (i : Int) = some ((List.range o.length).all (ncB at' o i) && (List.range K.length).all fun k => k == i || crB at' o i k) := by
  rw [g_spec_l25Crease, t_spec_l25Crease, w1 (by omega), ixg (l := o) (i := i) (by omega), Option.bind_some, ixg (l := o) (i := i + 1) (by omega), Option.bind_some]
  have h1 := ncS L hK hA ho i hi
  have h2 := crS L hK hA ho i hi
  rw [h1]
  cases (List.range o.length).all (ncB at' o i)
  · rfl
  · rw [cond_true, Option.bind_some]
    show Option.bind (w_spec_l25Crease_10 (m_spec_l25Crease_10 at' o (i : Int) (o.getD i 0) (o.getD (i + 1) 0) 0 L K)) _ = _
    rw [h2]
    cases (List.range K.length).all fun k => k == i || crB at' o i k <;> rfl

include hK hA ho in
theorem creaseI (i : Nat) (hi : i < K.length) : g_impl_Strip_isRightCrease (L, K) at' o (i : Int) = some (kdB K o i && ((List.range o.length).all (ncB at' o i) && (List.range i).all fun k => crB at' o i k && crB at' o k i)) := by
  rw [g_impl_Strip_isRightCrease, t_impl_Strip_isRightCrease, w1 (by omega), ixg (l := o) (i := i) (by omega), Option.bind_some, ixg (l := o) (i := i + 1) (by omega), Option.bind_some,
    ixg (l := at') (i := i + 1) (by omega), Option.bind_some, ixg (l := K) (i := i) hi, Option.bind_some]
  have h1 := ncI hK hA ho i hi
  have h2 := crI hK hA ho i hi
  rw [h1]
  show cond (!kdB K o i) _ _ = _
  cases kdB K o i
  · rfl
  · rw [Bool.not_true, cond_false, Bool.true_and]
    cases (List.range o.length).all (ncB at' o i)
    · rfl
    · rw [cond_true, Option.bind_some]
      show Option.bind (w_impl_Strip_isRightCrease_13 (m_impl_Strip_isRightCrease_13 at' o (i : Int) (o.getD i 0) (o.getD (i + 1) 0) (at'.getD (i + 1) 0) (i : Int) 0)) _ = _
      rw [h2]
      cases (List.range i).all fun k => crB at' o i k && crB at' o k i <;> rfl

theorem kindS (i : Nat) (hi : i < K.length) (hne : o.getD i 0 ≠ o.getD (i + 1) 0) : g_spec_l25Kind (L, K) (i : Int) (o.getD i 0) (o.getD (i + 1) 0) = some (kdB K o i) := by
  rw [g_spec_l25Kind, t_spec_l25Kind, ixg (l := K) (i := i) hi, odd_even]
  unfold kdB
  generalize o.getD i 0 = a at *
  generalize o.getD (i + 1) 0 = b at *
  cases (Int.tmod (i : Int) 2 == 0)
  · simp only [Bool.not_false, cond_true, Option.bind_some]
    by_cases h : a < b
    · rw [dec_t h, dec_f (show ¬ b < a by omega)]
      cases (K.getD i 0 == 3) <;> rfl
    · rw [dec_f h, dec_t (show b < a by omega)]
      cases (K.getD i 0 == 3) <;> rfl
  · simp only [Bool.not_true, cond_false, Option.bind_some]
    cases (K.getD i 0 == 3) <;> cases decide (a < b) <;> rfl
end

/-! all creases -/
section
variable {L K o : List Int} (hL : L.length = o.length) (hK : K.length + 1 = o.length) (ho : o.length ≤ 14) (hP : L.all P1 = true)

include hL hK ho in
theorem layers_spec (hn : ∀ i, i < K.length → o.getD i 0 ≠ o.getD (i + 1) 0) : g_spec_l25Layers (L, K) o = some (layB K (0 :: pls 0 0 L) o) := by
  have hA : (0 :: pls 0 0 L).length = o.length + 1 := by simp [pls_length, hL]
  rw [g_spec_l25Layers, t_spec_l25Layers, spec_places L (by omega), Option.bind_some]
  generalize 0 :: pls 0 0 L = at' at *
  have h : w_spec_l25Layers_4 (m_spec_l25Layers_4 o at' 0 L K) = some (cond (layB K at' o) (.inr (.inl d_spec_l25Layers_4_1)) (.inl (d_spec_l25Layers_4_0 false))) := by
    refine all_loop (W := fun i => w_spec_l25Layers_4 (m_spec_l25Layers_4 o at' (i : Int) L K)) ?_ ?_
    · rw [wq_spec_l25Layers_4, u_spec_l25Layers_4, dec_f (by omega), cond_false]; rfl
    · intro i hi
      rw [wq_spec_l25Layers_4, u_spec_l25Layers_4, dec_t (by omega), cond_true, w1 (by omega), ixg (l := o) (i := i) (by omega), Option.bind_some, ixg (l := o) (i := i + 1) (by omega), Option.bind_some,
        kindS L i hi (hn i hi), Option.bind_some, creaseS L hK hA ho i hi, Option.bind_some]
      cases kdB K o i
      · rfl
      · rw [Bool.not_true, cond_false, Bool.true_and]
        cases ((List.range o.length).all (ncB at' o i) && (List.range K.length).all fun k => k == i || crB at' o i k) <;> rfl
  rw [h]
  cases layB K at' o <;> rfl

include hL hK ho hP in
theorem layers_impl : g_impl_Strip_isFolded (L, K) o = some (foldB K (0 :: pls 0 0 L) o) := by
  have hA : (0 :: pls 0 0 L).length = o.length + 1 := by simp [pls_length, hL]
  have hp := impl_places (L, K) (show L.length ≤ 1048576 by omega) hP
  rw [g_impl_Strip_isFolded, t_impl_Strip_isFolded, hp, Option.bind_some]
  show Option.bind (w_impl_Strip_isFolded_4 (m_impl_Strip_isFolded_4 o (0 :: pls 0 0 L) ((K.length : Nat) : Int) 0 L K)) _ = _
  generalize 0 :: pls 0 0 L = at' at *
  have h : w_impl_Strip_isFolded_4 (m_impl_Strip_isFolded_4 o at' ((K.length : Nat) : Int) 0 L K) = some (cond (foldB K at' o) (.inr (.inl d_impl_Strip_isFolded_4_1)) (.inl (d_impl_Strip_isFolded_4_0 false))) := by
    refine all_loop (W := fun i => w_impl_Strip_isFolded_4 (m_impl_Strip_isFolded_4 o at' ((K.length : Nat) : Int) (i : Int) L K)) ?_ ?_
    · rw [wq_impl_Strip_isFolded_4, u_impl_Strip_isFolded_4, dec_f (by omega), cond_false]; rfl
    · intro i hi
      rw [wq_impl_Strip_isFolded_4, u_impl_Strip_isFolded_4, dec_t (by omega), cond_true, w1 (by omega), creaseI L hK hA ho i hi, Option.bind_some]
      cases (kdB K o i && ((List.range o.length).all (ncB at' o i) && (List.range i).all fun k => crB at' o i k && crB at' o k i)) <;> rfl
  rw [h]
  cases foldB K at' o <;> rfl
end
end Go.Proofs.Ytpabholjoblkbaa
