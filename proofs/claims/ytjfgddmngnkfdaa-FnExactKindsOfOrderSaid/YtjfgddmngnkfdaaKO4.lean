/- Cones, told by their numbers: what the reference computes. No conditions. -/
import Derived.Test.YtjfgddmngnkfdaaKO3
namespace Go.Proofs.Ytjfgddmngnkfdaa
open Go.Vai

theorem all_loop {β : Type} {W : Nat → Option β} {n : Nat} {P : Nat → Bool} {e0 e1 : β} (hn : W n = some e1) (hi : ∀ i, i < n → W i = cond (P i) (W (i + 1)) (some e0)) :
    W 0 = some (cond ((List.range n).all P) e1 e0) := by
  have h : ∀ m k, m + k = n → W m = some (cond ((List.range' m k).all P) e1 e0) := by
    intro m k
    induction k generalizing m with
    | zero => intro h; have : m = n := by omega
              subst this; exact hn
    | succ k ih =>
      intro h
      rw [hi m (by omega), List.range'_succ, List.all_cons]
      cases hp : P m
      · rfl
      · rw [cond_true, ih (m + 1) (by omega), Bool.true_and]
  rw [h 0 n (by omega), List.range_eq_range']

theorem for_loop {β : Type} {W : Nat → Option β} {n : Nat} {e : β} (hn : W n = some e) (hi : ∀ i, i < n → W i = W (i + 1)) : W 0 = some e := by
  have h : ∀ k m, m + k = n → W m = some e := by
    intro k
    induction k with
    | zero => intro m h; have : m = n := by omega
              subst this; exact hn
    | succ k ih => intro m h; rw [hi m (by omega)]; exact ih (m + 1) (by omega)
  exact h n 0 (by omega)

theorem ixg {α : Type} {l : List α} {d : α} {i : Nat} (h : i < l.length) : idx l ((i : Nat) : Int) = some (l.getD i d) := by
  rw [idx_nat, List.getD_eq_getElem?_getD, List.getElem?_eq_getElem h]; rfl
theorem w1 {i : Nat} (h : i ≤ 1073741824) : IntKind.wrap .i64 (((i : Nat) : Int) + 1) = ((i + 1 : Nat) : Int) := by
  rw [wrap_id (by omega) (by omega)]; omega
theorem beq_nat {i k : Nat} : (((i : Nat) : Int) == ((k : Nat) : Int)) = (i == k) := by
  by_cases h : i = k
  · subst h; simp
  · have h1 : (((i : Nat) : Int) == ((k : Nat) : Int)) = false := by rw [beq_eq_false_iff_ne]; omega
    have h2 : (i == k) = false := by rw [beq_eq_false_iff_ne]; exact h
    rw [h1, h2]
theorem bne_nat {i k : Nat} : (((i : Nat) : Int) != ((k : Nat) : Int)) = !(i == k) := by
  simp only [bne, beq_nat]

/-! a cone's numbers -/
section
variable (n : Nat) (X O K : List Int)
def nxI (i : Nat) : Nat := (i + 1) % n
def pvI (i : Nat) : Nat := (i + n - 1) % n
def xAt (i : Nat) : Int := X.getD i 0
def loAt (i : Nat) : Int := min (xAt X i) (xAt X (nxI n i))
def hiAt (i : Nat) : Int := max (xAt X i) (xAt X (nxI n i))
def LO : List Int := (List.range n).map (loAt n X)
def HI : List Int := (List.range n).map (hiAt n X)
def SPN : List (Int × Int) := (List.range n).map fun i => (loAt n X i, hiAt n X i)
def aAt (i k : Nat) : Int := O.getD (i * n + k) 0
def ov (i k : Nat) : Bool := !(i == k) && decide (max (loAt n X i) (loAt n X k) < min (hiAt n X i) (hiAt n X k))
def btB (i a b : Nat) : Bool := (aAt n O a i == 1 && aAt n O i b == 1) || (aAt n O b i == 1 && aAt n O i a == 1)
def ouB (i a b : Nat) : Bool := (aAt n O a i == 1 && aAt n O b i == 1) || (aAt n O i a == 1 && aAt n O i b == 1)
def evB (i : Nat) : Bool := Int.tmod (i : Int) 2 == 0
end

theorem range_len {α : Type} (n : Nat) (f : Nat → α) : ((List.range n).map f).length = n := by simp
theorem range_get {α : Type} {n i : Nat} (f : Nat → α) (h : i < n) : idx ((List.range n).map f) ((i : Nat) : Int) = some (f i) := by
  rw [idx_nat]; simp [h]

section
variable {n : Nat} {X O K : List Int} (hX : X.length = n) (hn : 1 ≤ n) (hn' : n ≤ 16)

theorem minS (a b : Int) : g_spec_l00Min a b = some (min a b) := by
  rw [g_spec_l00Min, t_spec_l00Min]
  by_cases h : a < b
  · rw [dec_t h, cond_true, Int.min_eq_left (by omega)]
  · rw [dec_f h, cond_false, Int.min_eq_right (by omega)]
theorem maxS (a b : Int) : g_spec_l00Max a b = some (max a b) := by
  rw [g_spec_l00Max, t_spec_l00Max]
  by_cases h : a > b
  · rw [dec_t h, cond_true, Int.max_eq_left (by omega)]
  · rw [dec_f h, cond_false, Int.max_eq_right (by omega)]

theorem nx_lt (hn : 1 ≤ n) (i : Nat) : nxI n i < n := Nat.mod_lt _ (by omega)
theorem pv_lt (hn : 1 ≤ n) (i : Nat) : pvI n i < n := Nat.mod_lt _ (by omega)

include hn hn' in
theorem nx_int {i : Nat} (hi : i < n) : Int.tmod (IntKind.wrap .i64 ((i : Int) + 1)) (n : Int) = ((nxI n i : Nat) : Int) := by
  rw [w1 (by omega), Int.tmod_eq_emod_of_nonneg (by omega)]; rfl
include hn hn' in
theorem pv_int {i : Nat} (hi : i < n) : Int.tmod (IntKind.wrap .i64 ((IntKind.wrap .i64 ((i : Int) + (n : Int))) - 1)) (n : Int) = ((pvI n i : Nat) : Int) := by
  rw [wrap_id (n := (i : Int) + n) (by omega) (by omega), wrap_id (by omega) (by omega), show (i : Int) + n - 1 = ((i + n - 1 : Nat) : Int) by omega, Int.tmod_eq_emod_of_nonneg (by omega)]; rfl
include hn' in
theorem at_int {i k : Nat} (hi : i < n) (hk : k < n) : IntKind.wrap .i64 ((IntKind.wrap .i64 ((i : Int) * (n : Int))) + (k : Int)) = ((i * n + k : Nat) : Int) := by
  have h1 : i * n ≤ 16 * 16 := Nat.mul_le_mul (by omega) hn'
  have h2 : (i : Int) * (n : Int) = ((i * n : Nat) : Int) := by simp
  rw [h2, wrap_id (n := ((i * n : Nat) : Int)) (by omega) (by omega), wrap_id (by omega) (by omega)]; omega
theorem at_lt {i k : Nat} (hi : i < n) (hk : k < n) : i * n + k < n * n := by
  have : (i + 1) * n ≤ n * n := Nat.mul_le_mul_right n (by omega)
  rw [Nat.add_mul] at this
  omega

include hX hn hn' in
theorem newS_loop : w_spec_l11New_4 (m_spec_l11New_4 0 (n : Int) X [] [] K []) = some (.inl (d_spec_l11New_4_0 (n : Int) X (LO n X) (HI n X) K [])) := by
  refine for_loop (W := fun i => w_spec_l11New_4 (m_spec_l11New_4 (i : Int) (n : Int) X ((List.range i).map (loAt n X)) ((List.range i).map (hiAt n X)) K [])) (n := n) ?_ ?_
  · try simp only []
    rw [wq_spec_l11New_4, u_spec_l11New_4, dec_f (by omega), cond_false]; rfl
  · intro i hi
    try simp only []
    rw [wq_spec_l11New_4, u_spec_l11New_4, dec_t (by omega), cond_true, ixg (d := 0) (by omega), Option.bind_some, dec_f (by omega), cond_false, nx_int hn hn' hi, ixg (d := 0) (by have := nx_lt hn i; omega), Option.bind_some,
      minS, Option.bind_some, maxS, dec_t (by simp; omega), cond_true, dec_t (by simp; omega), cond_true, Option.bind_some, dec_t (by simp; omega), cond_true, dec_t (by simp; omega), cond_true, w1 (by omega)]
    rw [List.range_succ, List.map_append, List.map_append]
    rfl

theorem LO_get {i : Nat} (hi : i < n) : idx (LO n X) ((i : Nat) : Int) = some (loAt n X i) := range_get _ hi
theorem HI_get {i : Nat} (hi : i < n) : idx (HI n X) ((i : Nat) : Int) = some (hiAt n X i) := range_get _ hi
theorem SP_get {i : Nat} (hi : i < n) : idx (SPN n X) ((i : Nat) : Int) = some (loAt n X i, hiAt n X i) := range_get _ hi

/-- The reference's cone. -/
abbrev coS (n : Nat) (X O K : List Int) : Int × (List Int × (List Int × (List Int × (List Int × List Int)))) := ((n : Int), (X, (LO n X, (HI n X, (K, O)))))
abbrev coI (n : Nat) (X O : List Int) : Int × (List Int × (List (Int × Int) × List Int)) := ((n : Int), (X, (SPN n X, O)))

theorem ovS {i k : Nat} (hi : i < n) (hk : k < n) : g_spec_l11Cone_overlap (coS n X O K) (i : Int) (k : Int) = some (ov n X i k) := by
  rw [g_spec_l11Cone_overlap, t_spec_l11Cone_overlap, bne_nat]
  unfold ov
  cases (i == k)
  · simp only [Bool.not_false, cond_true, LO_get hi, LO_get hk, HI_get hi, HI_get hk, Option.bind_some, maxS, minS, Bool.true_and]
  · rfl

def ordAt (n : Nat) (X : List Int) (t : Nat) : Int := cond (ov n X (t / n) (t % n)) 2 0

include hn hn' in
theorem newS_loop2 : w_spec_l11New_11 (m_spec_l11New_11 0 (n : Int) X (LO n X) (HI n X) K []) = some (.inl (d_spec_l11New_11_0 (n : Int) X (LO n X) (HI n X) K ((List.range (n * n)).map (ordAt n X)))) := by
  have hnn : n * n ≤ 16 * 16 := Nat.mul_le_mul hn' hn'
  have hw : IntKind.wrap .i64 ((n : Int) * (n : Int)) = ((n * n : Nat) : Int) := by
    rw [show (n : Int) * (n : Int) = ((n * n : Nat) : Int) by simp, wrap_id (by omega) (by omega)]
  refine for_loop (W := fun i => w_spec_l11New_11 (m_spec_l11New_11 (i : Int) (n : Int) X (LO n X) (HI n X) K ((List.range i).map (ordAt n X)))) (n := n * n) ?_ ?_
  · try simp only []
    rw [wq_spec_l11New_11, u_spec_l11New_11, hw, dec_f (by omega), cond_false]; rfl
  · intro i hi
    try simp only []
    have h1 : i / n < n := Nat.div_lt_of_lt_mul hi
    have h2 : i % n < n := Nat.mod_lt _ (by omega)
    have e1 : IntKind.wrap .i64 (Int.tdiv (i : Int) (n : Int)) = ((i / n : Nat) : Int) := by
      rw [Int.tdiv_eq_ediv_of_nonneg (by omega), show (i : Int) / (n : Int) = ((i / n : Nat) : Int) from rfl]
      generalize i / n = j at h1 ⊢
      rw [wrap_id (by omega) (by omega)]
    have e2 : Int.tmod (i : Int) (n : Int) = ((i % n : Nat) : Int) := by rw [Int.tmod_eq_emod_of_nonneg (by omega)]; simp
    rw [wq_spec_l11New_11, u_spec_l11New_11, hw, dec_t (by omega), cond_true, dec_f (by omega), cond_false, cond_false, e1, e2, ovS h1 h2, Option.bind_some]
    rw [List.range_succ, List.map_append, w1 (by omega)]
    simp only [List.map_cons, List.map_nil, ordAt]
    cases ov n X (i / n) (i % n)
    · simp only [cond_false]
      rw [dec_t (by simp; omega), cond_true, dec_t (by simp; omega), cond_true]
    · simp only [cond_true]
      rw [dec_t (by simp; omega), cond_true, dec_t (by simp; omega), cond_true]

include hn hn' hX in
theorem newS (L : List Int) (hL : L.length = n) (hp : plc 0 0 L = X) : g_spec_l11New L K = some (coS n X ((List.range (n * n)).map (ordAt n X)) K) := by
  rw [g_spec_l11New, t_spec_l11New, spec_places L (by omega), hp, Option.bind_some, hL, newS_loop hX hn hn']
  simp only [Option.bind_some, exC]
  have := newS_loop2 (X := X) (K := K) hn hn'
  rw [this]
  rfl

/-! the form of an order -/
def foB (n : Nat) (X O : List Int) (i k : Nat) : Bool :=
  (decide (-1 ≤ aAt n O i k) && decide (aAt n O i k ≤ 1)) && ((aAt n O i k == IntKind.wrap .i64 (0 - aAt n O k i)) && ((aAt n O i k != 0) == ov n X i k))

include hn' in
theorem aAt_ix (hO : O.length = n * n) {i k : Nat} (hi : i < n) (hk : k < n) : idx O (IntKind.wrap .i64 ((IntKind.wrap .i64 ((i : Int) * (n : Int))) + (k : Int))) = some (aAt n O i k) := by
  rw [at_int hn' hi hk, ixg (d := 0) (by have := at_lt hi hk; omega)]; rfl

theorem inS (x : Int) : g_spec_l00In x (-1) 1 = some (decide (-1 ≤ x) && decide (x ≤ 1)) := by
  unfold g_spec_l00In t_spec_l00In
  by_cases h : x ≥ -1
  · rw [dec_t h]; simp
  · rw [dec_f h]; simp

theorem fo_step {R : Type} (x y : Int) (o : Bool) (p q : Option R) :
    cond (x != IntKind.wrap .i64 ((0 : Int) - y)) q (cond (x == 1) (cond (!(true == o)) q (Option.bind (g_spec_l00In x (-1) 1) fun y133 => cond (!y133) q p)) (cond (!((x == (-(1 : Int))) == o)) q (Option.bind (g_spec_l00In x (-1) 1) fun y135 => cond (!y135) q p)))
      = cond ((decide (-1 ≤ x) && decide (x ≤ 1)) && ((x == IntKind.wrap .i64 (0 - y)) && ((x != 0) == o))) p q := by
  simp only [inS, Option.bind_some, bne]
  cases h1 : (x == IntKind.wrap .i64 ((0 : Int) - y))
  · simp
  · simp only [Bool.not_true, cond_false, Bool.true_and]
    by_cases h2 : -1 ≤ x
    · by_cases h3 : x ≤ 1
      · rw [dec_t h2, dec_t h3]
        have : x = -1 ∨ x = 0 ∨ x = 1 := by omega
        rcases this with rfl | rfl | rfl <;> cases o <;> rfl
      · rw [dec_t h2, dec_f h3]
        have e1 : (x == 1) = false := by simp; omega
        have e2 : (x == -1) = false := by simp; omega
        rw [e1, e2]; cases o <;> rfl
    · rw [dec_f h2]
      have e1 : (x == 1) = false := by simp; omega
      have e2 : (x == -1) = false := by simp; omega
      rw [e1, e2]; cases o <;> rfl

include hn' in
theorem formS_in (hO : O.length = n * n) {O' : List Int} {i : Nat} (hi : i < n) : w_spec_l11Form_8 (m_spec_l11Form_8 O (i : Int) 0 (n : Int) X (LO n X) (HI n X) K O') =
    some (cond ((List.range n).all (foB n X O i)) (.inr (.inl (d_spec_l11Form_8_1 O (i : Int) (n : Int) X (LO n X) (HI n X) K O'))) (.inl (d_spec_l11Form_8_0 O false (i : Int) (n : Int) X (LO n X) (HI n X) K O'))) := by
  refine all_loop (W := fun k => w_spec_l11Form_8 (m_spec_l11Form_8 O (i : Int) (k : Int) (n : Int) X (LO n X) (HI n X) K O')) ?_ ?_
  · try simp only []
    rw [wq_spec_l11Form_8, u_spec_l11Form_8, dec_f (by omega), cond_false]; rfl
  · intro k hk
    try simp only []
    rw [wq_spec_l11Form_8, u_spec_l11Form_8, dec_t (by omega), cond_true, w1 (by omega), aAt_ix hn' hO hi hk, Option.bind_some, aAt_ix hn' hO hk hi, Option.bind_some]
    have := ovS (X := X) (O := O') (K := K) hi hk
    simp only [this, Option.bind_some]
    exact fo_step _ _ _ _ _

def formB (n : Nat) (X O : List Int) : Bool := (List.range n).all fun i => (List.range n).all (foB n X O i)

include hn' in
theorem formS {O' : List Int} : g_spec_l11Form (coS n X O' K) O = some (decide (O.length = n * n) && formB n X O) := by
  have hnn : n * n ≤ 16 * 16 := Nat.mul_le_mul hn' hn'
  rw [g_spec_l11Form, t_spec_l11Form]
  try simp only []
  rw [show (n : Int) * (n : Int) = ((n * n : Nat) : Int) by simp, wrap_id (by omega) (by omega), bne_nat]
  by_cases hO : O.length = n * n
  · rw [dec_t hO, show (O.length == n * n) = true by simp [hO], Bool.not_true, cond_false, Bool.true_and]
    have h : w_spec_l11Form_5 (m_spec_l11Form_5 O 0 (n : Int) X (LO n X) (HI n X) K O') = some (cond (formB n X O) (.inr (.inl d_spec_l11Form_5_1)) (.inl (d_spec_l11Form_5_0 false))) := by
      refine all_loop (W := fun i => w_spec_l11Form_5 (m_spec_l11Form_5 O (i : Int) (n : Int) X (LO n X) (HI n X) K O')) ?_ ?_
      · try simp only []
        rw [wq_spec_l11Form_5, u_spec_l11Form_5, dec_f (by omega), cond_false]; rfl
      · intro i hi
        try simp only []
        rw [wq_spec_l11Form_5, u_spec_l11Form_5, dec_t (by omega), cond_true, formS_in hn' hO hi]
        cases (List.range n).all (foB n X O i)
        · rfl
        · simp only [cond_true, Option.bind_some, exC]
          rw [w1 (by omega)]
    rw [h]
    cases formB n X O <;> rfl
  · rw [dec_f hO, show (O.length == n * n) = false by simp [hO]]; rfl
end
end Go.Proofs.Ytjfgddmngnkfdaa
