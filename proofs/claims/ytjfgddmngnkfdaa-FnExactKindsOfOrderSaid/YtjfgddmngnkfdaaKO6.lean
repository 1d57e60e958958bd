/- Cones: what the program computes. No conditions. -/
import Derived.Test.YtjfgddmngnkfdaaKO5
namespace Go.Proofs.Ytjfgddmngnkfdaa
open Go.Vai

theorem minI (a b : Int) : (if (Bool.false = Bool.true) then (if (b > a) then b else a) else (if (b < a) then b else a)) = min a b := by
  rw [if_neg (by simp)]
  by_cases h : b < a
  · rw [if_pos h, Int.min_eq_right (by omega)]
  · rw [if_neg h, Int.min_eq_left (by omega)]
theorem maxI (a b : Int) : (if (Bool.true = Bool.true) then (if (b > a) then b else a) else (if (b < a) then b else a)) = max a b := by
  rw [if_pos rfl]
  by_cases h : b > a
  · rw [if_pos h, Int.max_eq_right (by omega)]
  · rw [if_neg h, Int.max_eq_left (by omega)]
theorem maxI' (a b : Int) : (if True then (if (b > a) then b else a) else (if (b < a) then b else a)) = max a b := maxI a b

section
variable (n : Nat) (X O K : List Int)
def ibA (s a b : Nat) : Int := IntKind.wrap .i64 ((IntKind.wrap .i64 (0 - aAt n O s a)) * aAt n O s b)
def tiB (s i : Nat) : Bool := decide (loAt n X s < xAt X i) && (decide (xAt X i < hiAt n X s) && decide (ibA n O s (pvI n i) i > 0))
def wiB (x y : Nat) : Bool := xAt X x == xAt X y && (((loAt n X (pvI n x) == xAt X x) == (loAt n X (pvI n y) == xAt X y)) &&
  (decide (IntKind.wrap .i64 (ibA n O (pvI n y) (pvI n x) x * ibA n O y (pvI n x) x) < 0) || decide (IntKind.wrap .i64 (ibA n O (pvI n x) (pvI n y) y * ibA n O x (pvI n y) y) < 0)))
def cyB (i k m : Nat) : Bool := aAt n O i k != 0 && (aAt n O k m == aAt n O i k && (aAt n O m i == aAt n O i k && ov3 n X i k m))
def kiA (i : Nat) : Int := cond (Int.tmod (i : Int) 2 == 0)
  (cond (IntKind.wrap .i64 (0 - aAt n O (pvI n i) i) == 1) 2 (cond (IntKind.wrap .i64 (0 - aAt n O (pvI n i) i) == -1) 3 0))
  (cond (aAt n O (pvI n i) i == 1) 2 (cond (aAt n O (pvI n i) i == -1) 3 0))
def koB (i : Nat) : Bool := kAt K i == 4 || (kiA n O i == 0 || kiA n O i == kAt K i)
def gdI : Bool := (List.range n).all fun i => koB n O K i && (List.range n).all fun k => !(tiB n X O i k) && (((i == k) || !(wiB n X O i k)) && (List.range n).all fun m => !(cyB n X O i k m))
end

section
variable {n : Nat} {X O K : List Int} (hX : X.length = n) (hn : 1 ≤ n) (hn' : n ≤ 16) (hO : O.length = n * n) (hK : K.length = n)

include hX hn hn' in
theorem newI_loop : w_impl_newCone_4 (m_impl_newCone_4 X (n : Int) 0 (n : Int) X [] O) = some (.inl (d_impl_newCone_4_0 (n : Int) X (SPN n X) O)) := by
  refine for_loop (W := fun i => w_impl_newCone_4 (m_impl_newCone_4 X (n : Int) (i : Int) (n : Int) X ((List.range i).map fun i => (loAt n X i, hiAt n X i)) O)) (n := n) ?_ ?_
  · try simp only []
    rw [wq_impl_newCone_4, u_impl_newCone_4, dec_f (by omega), cond_false]; rfl
  · intro i hi
    try simp only []
    rw [wq_impl_newCone_4, u_impl_newCone_4, dec_t (by omega), cond_true, ixg (d := 0) (by omega), Option.bind_some, dec_f (by omega), cond_false, nx_int hn hn' hi, ixg (d := 0) (by have := nx_lt hn i; omega), Option.bind_some,
      dec_t (by simp; omega), cond_true, dec_t (by simp; omega), cond_true, w1 (by omega), minI, maxI]
    rw [List.range_succ, List.map_append]
    rfl

include hX hn hn' in
theorem newI (L : List Int) (hL : L.length = n) (hp : plc 0 0 L = X) : g_impl_newCone L O = some (coI n X O) := by
  rw [g_impl_newCone, t_impl_newCone, impl_places L (by omega), hp, Option.bind_some, hL, hX, newI_loop hX hn hn']
  rfl

include hn' hO in
theorem abI {i k : Nat} (hi : i < n) (hk : k < n) : g_impl_cone_above (coI n X O) (i : Int) (k : Int) = some (aAt n O i k) := by
  rw [g_impl_cone_above, t_impl_cone_above, aAt_ix hn' hO hi hk]; rfl

theorem ov_step {i : Nat} {lo hi : Int} {l : List Int} {j : Nat} (h : i < n) (hj : idx l (j : Int) = some (i : Int)) (hjl : j < l.length) (hl : l.length ≤ 100) :
    w_impl_cone_overlap_4 (m_impl_cone_overlap_4 lo hi l ((l.length : Nat) : Int) (j : Int) (n : Int) X (SPN n X) O) =
    w_impl_cone_overlap_4 (m_impl_cone_overlap_4 (max lo (loAt n X i)) (min hi (hiAt n X i)) l ((l.length : Nat) : Int) ((j + 1 : Nat) : Int) (n : Int) X (SPN n X) O) := by
  rw [wq_impl_cone_overlap_4, u_impl_cone_overlap_4, dec_t (by omega), cond_true, hj, Option.bind_some, SP_get h, Option.bind_some, Option.bind_some, w1 (by omega)]
  simp only [minI, maxI']
theorem ov_end {lo hi : Int} {l : List Int} : w_impl_cone_overlap_4 (m_impl_cone_overlap_4 lo hi l ((l.length : Nat) : Int) ((l.length : Nat) : Int) (n : Int) X (SPN n X) O) = some (.inl (d_impl_cone_overlap_4_0 lo hi)) := by
  rw [wq_impl_cone_overlap_4, u_impl_cone_overlap_4, dec_f (by omega), cond_false]; rfl

theorem ovI2 {i k : Nat} (hi : i < n) (hk : k < n) : g_impl_cone_overlap (coI n X O) [(i : Int), (k : Int)] = some (decide (max (loAt n X i) (loAt n X k) < min (hiAt n X i) (hiAt n X k))) := by
  rw [g_impl_cone_overlap, t_impl_cone_overlap]
  have i0 : idx [(i : Int), (k : Int)] 0 = some (i : Int) := rfl
  simp only [i0, SP_get hi, Option.bind_some]
  have h1 := ov_step (X := X) (O := O) (lo := loAt n X i) (hi := hiAt n X i) (l := [(i : Int), (k : Int)]) (j := 0) hi rfl (by simp) (by simp)
  have h2 := ov_step (X := X) (O := O) (lo := max (loAt n X i) (loAt n X i)) (hi := min (hiAt n X i) (hiAt n X i)) (l := [(i : Int), (k : Int)]) (j := 1) hk rfl (by simp) (by simp)
  have h3 := ov_end (n := n) (X := X) (O := O) (lo := max (max (loAt n X i) (loAt n X i)) (loAt n X k)) (hi := min (min (hiAt n X i) (hiAt n X i)) (hiAt n X k)) (l := [(i : Int), (k : Int)])
  have h := (h1.trans h2).trans h3
  have h' : w_impl_cone_overlap_4 (m_impl_cone_overlap_4 (loAt n X i) (hiAt n X i) [(i : Int), (k : Int)] (([(i : Int), (k : Int)].length : Nat) : Int) 0 (n : Int) X (SPN n X) O) = _ := h
  rw [h']
  simp only [Option.bind_some, exC, Int.max_self, Int.min_self]

theorem ovI3 {i k m : Nat} (hi : i < n) (hk : k < n) (hm : m < n) : g_impl_cone_overlap (coI n X O) [(i : Int), (k : Int), (m : Int)] = some (ov3 n X i k m) := by
  rw [g_impl_cone_overlap, t_impl_cone_overlap]
  have i0 : idx [(i : Int), (k : Int), (m : Int)] 0 = some (i : Int) := rfl
  simp only [i0, SP_get hi, Option.bind_some]
  have h1 := ov_step (X := X) (O := O) (lo := loAt n X i) (hi := hiAt n X i) (l := [(i : Int), (k : Int), (m : Int)]) (j := 0) hi rfl (by simp) (by simp)
  have h2 := ov_step (X := X) (O := O) (lo := max (loAt n X i) (loAt n X i)) (hi := min (hiAt n X i) (hiAt n X i)) (l := [(i : Int), (k : Int), (m : Int)]) (j := 1) hk rfl (by simp) (by simp)
  have h3 := ov_step (X := X) (O := O) (lo := max (max (loAt n X i) (loAt n X i)) (loAt n X k)) (hi := min (min (hiAt n X i) (hiAt n X i)) (hiAt n X k)) (l := [(i : Int), (k : Int), (m : Int)]) (j := 2) hm rfl (by simp) (by simp)
  have h4 := ov_end (n := n) (X := X) (O := O) (lo := max (max (max (loAt n X i) (loAt n X i)) (loAt n X k)) (loAt n X m)) (hi := min (min (min (hiAt n X i) (hiAt n X i)) (hiAt n X k)) (hiAt n X m)) (l := [(i : Int), (k : Int), (m : Int)])
  have h := ((h1.trans h2).trans h3).trans h4
  have h' : w_impl_cone_overlap_4 (m_impl_cone_overlap_4 (loAt n X i) (hiAt n X i) [(i : Int), (k : Int), (m : Int)] (([(i : Int), (k : Int), (m : Int)].length : Nat) : Int) 0 (n : Int) X (SPN n X) O) = _ := h
  rw [h']
  simp only [Option.bind_some, exC, Int.max_self, Int.min_self, ov3, Int.max_assoc, Int.min_assoc]

theorem inI (x : Int) : g_impl_within x (-1) 1 = some (decide (-1 ≤ x) && decide (x ≤ 1)) := by
  unfold g_impl_within t_impl_within
  by_cases h : x ≥ -1
  · rw [dec_t h]; simp
  · rw [dec_f h]; simp

include hn' in
theorem formI_in (hO : O.length = n * n) {i : Nat} (hi : i < n) (a b : Int) : w_impl_cone_hasForm_8 (m_impl_cone_hasForm_8 (i : Int) a b (n : Int) 0 (n : Int) X (SPN n X) O) =
    some (cond ((List.range n).all (foB n X O i)) (.inr (.inl (d_impl_cone_hasForm_8_1 a b (n : Int) X (SPN n X) O))) (.inl (d_impl_cone_hasForm_8_0 false a b (n : Int) X (SPN n X) O))) := by
  refine all_loop (W := fun k => w_impl_cone_hasForm_8 (m_impl_cone_hasForm_8 (i : Int) a b (n : Int) (k : Int) (n : Int) X (SPN n X) O)) ?_ ?_
  · try simp only []
    rw [wq_impl_cone_hasForm_8, u_impl_cone_hasForm_8, dec_f (by omega), cond_false]; rfl
  · intro k hk
    have e1 := abI (X := X) hn' hO hi hk
    have e2 := abI (X := X) hn' hO hk hi
    have e3 := ovI2 (X := X) (O := O) hi hk
    rw [wq_impl_cone_hasForm_8, u_impl_cone_hasForm_8, dec_t (by omega), cond_true, w1 (by omega)]
    simp only [e1, e2, e3, inI, Option.bind_some, bne_nat]
    generalize hy : w_impl_cone_hasForm_8 _ = y
    unfold foB ov
    simp only [bne]
    cases (decide (-1 ≤ aAt n O i k) && decide (aAt n O i k ≤ 1)) <;> first
      | rfl
      | (cases (aAt n O i k == IntKind.wrap .i64 (0 - aAt n O k i)) <;> first
        | rfl
        | (cases (i == k) <;> cases (aAt n O i k == 0) <;> first
          | rfl
          | (cases decide (max (loAt n X i) (loAt n X k) < min (hiAt n X i) (hiAt n X k)) <;> rfl)))

include hn' in
theorem formI : g_impl_cone_hasForm (coI n X O) = some (decide (O.length = n * n) && formB n X O) := by
  have hnn : n * n ≤ 16 * 16 := Nat.mul_le_mul hn' hn'
  rw [g_impl_cone_hasForm, t_impl_cone_hasForm]
  try simp only []
  rw [show (n : Int) * (n : Int) = ((n * n : Nat) : Int) by simp, wrap_id (by omega) (by omega), bne_nat]
  by_cases hO : O.length = n * n
  · rw [dec_t hO, show (O.length == n * n) = true by simp [hO], Bool.not_true, cond_false, Bool.true_and]
    have h : w_impl_cone_hasForm_5 (m_impl_cone_hasForm_5 (n : Int) 0 (n : Int) X (SPN n X) O) = some (cond (formB n X O) (.inr (.inl d_impl_cone_hasForm_5_1)) (.inl (d_impl_cone_hasForm_5_0 false))) := by
      refine all_loop (W := fun i => w_impl_cone_hasForm_5 (m_impl_cone_hasForm_5 (n : Int) (i : Int) (n : Int) X (SPN n X) O)) ?_ ?_
      · try simp only []
        rw [wq_impl_cone_hasForm_5, u_impl_cone_hasForm_5, dec_f (by omega), cond_false]; rfl
      · intro i hi
        try simp only []
        rw [wq_impl_cone_hasForm_5, u_impl_cone_hasForm_5, dec_t (by omega), cond_true, formI_in hn' hO hi]
        cases (List.range n).all (foB n X O i)
        · rfl
        · simp only [cond_true, Option.bind_some, exC]
          rw [w1 (by omega)]
    rw [h]
    cases formB n X O <;> rfl
  · rw [dec_f hO, show (O.length == n * n) = false by simp [hO]]; rfl

include hn hn' in
theorem bdI {i : Nat} (hi : i < n) : g_impl_cone_beside (coI n X O) (i : Int) = some (((pvI n i : Nat) : Int), (i : Int)) := by
  rw [g_impl_cone_beside, t_impl_cone_beside, dec_f (by simp only []; omega), cond_false]
  try simp only []
  rw [pv_int hn hn' hi]

include hn' hO in
theorem ibI {s a b : Nat} (hs : s < n) (ha : a < n) (hb : b < n) : g_impl_cone_isBetween (coI n X O) (s : Int) (a : Int) (b : Int) = some (ibA n O s a b) := by
  rw [g_impl_cone_isBetween, t_impl_cone_isBetween]
  simp only [abI (X := X) hn' hO hs ha, abI (X := X) hn' hO hs hb, Option.bind_some]
  rfl

include hX hn hn' hO in
theorem thI {s i : Nat} (hs : s < n) (hi : i < n) : g_impl_cone_isThrough (coI n X O) (s : Int) (i : Int) = some (tiB n X O s i) := by
  rw [g_impl_cone_isThrough, t_impl_cone_isThrough]
  simp only [bdI (X := X) (O := O) hn hn' hi, ibI (X := X) hn' hO hs (pv_lt hn i) hi, X_get hX hi, SP_get hs, Option.bind_some]
  unfold tiB
  cases decide (loAt n X s < xAt X i) <;> cases decide (xAt X i < hiAt n X s) <;> rfl

include hX hn hn' hO in
theorem wvI {x y : Nat} (hx : x < n) (hy : y < n) : g_impl_cone_isWoven (coI n X O) (x : Int) (y : Int) = some (wiB n X O x y) := by
  have hp := pv_lt hn x
  have hq := pv_lt hn y
  rw [g_impl_cone_isWoven, t_impl_cone_isWoven]
  simp only [bdI (X := X) (O := O) hn hn' hx, bdI (X := X) (O := O) hn hn' hy, ibI (X := X) hn' hO hq hp hx, ibI (X := X) hn' hO hy hp hx, ibI (X := X) hn' hO hp hq hy, ibI (X := X) hn' hO hx hq hy, X_get hX hx, X_get hX hy, SP_get hp, SP_get hq, Option.bind_some]
  unfold wiB
  simp only [bne]
  cases (xAt X x == xAt X y) <;> first
    | rfl
    | (cases ((loAt n X (pvI n x) == xAt X x) == (loAt n X (pvI n y) == xAt X y)) <;> first
      | rfl
      | (cases decide (IntKind.wrap .i64 (ibA n O (pvI n y) (pvI n x) x * ibA n O y (pvI n x) x) < 0) <;> rfl))

include hn' hO in
theorem cyI {i k m : Nat} (hi : i < n) (hk : k < n) (hm : m < n) : g_impl_cone_isCycle (coI n X O) (i : Int) (k : Int) (m : Int) = some (cyB n X O i k m) := by
  rw [g_impl_cone_isCycle, t_impl_cone_isCycle]
  simp only [abI (X := X) hn' hO hi hk, abI (X := X) hn' hO hk hm, abI (X := X) hn' hO hm hi, ovI3 (X := X) (O := O) hi hk hm, Option.bind_some]
  unfold cyB
  cases (aAt n O i k != 0) <;> cases (aAt n O k m == aAt n O i k) <;> cases (aAt n O m i == aAt n O i k) <;> rfl

include hn hn' hO in
theorem kdI {i : Nat} (hi : i < n) : g_impl_cone_kindOf (coI n X O) (i : Int) = some (kiA n O i) := by
  rw [g_impl_cone_kindOf, t_impl_cone_kindOf, bdI hn hn' hi, Option.bind_some]
  simp only [abI (X := X) hn' hO (pv_lt hn i) hi, Option.bind_some]
  unfold kiA
  cases (Int.tmod (i : Int) 2 == 0) <;> cases (IntKind.wrap .i64 (0 - aAt n O (pvI n i) i) == 1) <;> cases (IntKind.wrap .i64 (0 - aAt n O (pvI n i) i) == -1) <;> cases (aAt n O (pvI n i) i == 1) <;> cases (aAt n O (pvI n i) i == -1) <;> rfl

include hX hn hn' hO hK in
theorem goodI : g_impl_cone_isGood (coI n X O) K = some (gdI n X O K) := by
  rw [g_impl_cone_isGood, t_impl_cone_isGood]
  try simp only []
  have h14 : ∀ {i k : Nat} (a b c d : Int), i < n → k < n → w_impl_cone_isGood_14 (m_impl_cone_isGood_14 K (i : Int) (k : Int) a b c d (n : Int) 0 (n : Int) X (SPN n X) O) =
      some (cond ((List.range n).all fun m => !(cyB n X O i k m)) (.inr (.inl (d_impl_cone_isGood_14_1 K (i : Int) a b c d (n : Int) X (SPN n X) O))) (.inl (d_impl_cone_isGood_14_0 K false (i : Int) a b c d (n : Int) X (SPN n X) O))) := by
    intro i k a b c d hi hk
    refine all_loop (W := fun m => w_impl_cone_isGood_14 (m_impl_cone_isGood_14 K (i : Int) (k : Int) a b c d (n : Int) (m : Int) (n : Int) X (SPN n X) O)) ?_ ?_
    · try simp only []
      rw [wq_impl_cone_isGood_14, u_impl_cone_isGood_14, dec_f (by omega), cond_false]; rfl
    · intro m hm
      have e1 := cyI (X := X) hn' hO hi hk hm
      rw [wq_impl_cone_isGood_14, u_impl_cone_isGood_14, dec_t (by omega), cond_true, w1 (by omega)]
      simp only [e1, Option.bind_some]
      cases cyB n X O i k m <;> rfl
  have h9 : ∀ {i : Nat} (a b : Int), i < n → w_impl_cone_isGood_9 (m_impl_cone_isGood_9 K (i : Int) a b (n : Int) 0 (n : Int) X (SPN n X) O) =
      some (cond ((List.range n).all fun k => !(tiB n X O i k) && (((i == k) || !(wiB n X O i k)) && (List.range n).all fun m => !(cyB n X O i k m))) (.inr (.inl (d_impl_cone_isGood_9_1 K a b (n : Int) X (SPN n X) O))) (.inl (d_impl_cone_isGood_9_0 K false a b (n : Int) X (SPN n X) O))) := by
    intro i a b hi
    refine all_loop (W := fun k => w_impl_cone_isGood_9 (m_impl_cone_isGood_9 K (i : Int) a b (n : Int) (k : Int) (n : Int) X (SPN n X) O)) ?_ ?_
    · try simp only []
      rw [wq_impl_cone_isGood_9, u_impl_cone_isGood_9, dec_f (by omega), cond_false]; rfl
    · intro k hk
      have e1 := thI (X := X) (O := O) hX hn hn' hO hi hk
      have e2 := wvI (X := X) (O := O) hX hn hn' hO hi hk
      rw [wq_impl_cone_isGood_9, u_impl_cone_isGood_9, dec_t (by omega), cond_true]
      simp only [e1, e2, h14 _ _ _ _ hi hk, Option.bind_some, bne_nat]
      cases tiB n X O i k
      · cases ((List.range n).all fun m => !(cyB n X O i k m)) <;> cases (i == k) <;> cases wiB n X O i k <;> first
          | rfl
          | (simp only [cond_true, cond_false, exC, Bool.not_true, Bool.not_false]
             rw [w1 (by omega)]
             rfl)
      · rfl
  have h : w_impl_cone_isGood_3 (m_impl_cone_isGood_3 K (n : Int) 0 (n : Int) X (SPN n X) O) = some (cond (gdI n X O K) (.inr (.inl d_impl_cone_isGood_3_1)) (.inl (d_impl_cone_isGood_3_0 false))) := by
    refine all_loop (W := fun i => w_impl_cone_isGood_3 (m_impl_cone_isGood_3 K (n : Int) (i : Int) (n : Int) X (SPN n X) O)) ?_ ?_
    · try simp only []
      rw [wq_impl_cone_isGood_3, u_impl_cone_isGood_3, dec_f (by omega), cond_false]; rfl
    · intro i hi
      have e1 := kdI (X := X) (O := O) hn hn' hO hi
      have e3 : idx K ((i : Nat) : Int) = some (kAt K i) := ixg (d := 0) (by omega)
      rw [wq_impl_cone_isGood_3, u_impl_cone_isGood_3, dec_t (by omega), cond_true]
      simp only [e1, e3, h9 _ _ hi, Option.bind_some, bne]
      unfold koB
      cases ((List.range n).all fun k => !(tiB n X O i k) && (((i == k) || !(wiB n X O i k)) && (List.range n).all fun m => !(cyB n X O i k m))) <;> cases (kAt K i == 4) <;> cases (kiA n O i == 0) <;> cases (kiA n O i == kAt K i) <;> first
        | rfl
        | (simp only [cond_true, cond_false, exC, Bool.not_true, Bool.not_false]
           rw [w1 (by omega)]
           rfl)
  rw [h]
  cases gdI n X O K <;> rfl
end
end Go.Proofs.Ytjfgddmngnkfdaa
