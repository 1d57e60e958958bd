/- When an order is good: what the reference computes. No conditions. -/
import Derived.Test.YtjfgddmngnkfdaaKO4
namespace Go.Proofs.Ytjfgddmngnkfdaa
open Go.Vai

section
variable (n : Nat) (X O K : List Int)
/-- The sector 'k' runs through the crease 'i'. -/
def thB (i k : Nat) : Bool := decide (loAt n X k < xAt X i) && (decide (xAt X i < hiAt n X k) && btB n O k (pvI n i) i)
/-- The crease 'k' is woven with the crease 'i'. -/
def wvB (i k : Nat) : Bool := xAt X k == xAt X i && (evB k == evB i && ((btB n O (pvI n k) (pvI n i) i && ouB n O k (pvI n i) i) || (ouB n O (pvI n k) (pvI n i) i && btB n O k (pvI n i) i)))
def crB (i : Nat) : Bool := (List.range n).all fun k => !(thB n X O i k) && ((k == i) || !(wvB n X O i k))
def kAt (i : Nat) : Int := K.getD i 0
def wrB (i : Nat) : Bool := cond (Int.tmod (i : Int) 2 == 1)
  ((kAt K i == 2 && aAt n O i (pvI n i) == 1) || (kAt K i == 3 && aAt n O (pvI n i) i == 1))
  ((kAt K i == 2 && aAt n O (pvI n i) i == 1) || (kAt K i == 3 && aAt n O i (pvI n i) == 1))
def ov3 (i k j : Nat) : Bool := decide (max (loAt n X i) (max (loAt n X k) (loAt n X j)) < min (hiAt n X i) (min (hiAt n X k) (hiAt n X j)))
def ciB (i k j : Nat) : Bool := ov3 n X i k j && ((aAt n O i k == 1 && (aAt n O k j == 1 && aAt n O j i == 1)) || (aAt n O k i == 1 && (aAt n O i j == 1 && aAt n O j k == 1)))
def cicB (i k : Nat) : Bool := (List.range n).all fun j => !(ciB n X O i k j)
def gdS : Bool := (List.range n).all fun i => crB n X O i && (!(wrB n O K i) && (List.range i).all fun k => !(ov n X i k && !(cicB n X O i k)))
end

section
variable {n : Nat} {X O K : List Int} (hX : X.length = n) (hn : 1 ≤ n) (hn' : n ≤ 16) (hO : O.length = n * n) (hK : K.length = n)

include hn' hO in
theorem abS {i k : Nat} (hi : i < n) (hk : k < n) : g_spec_l11Cone_above (coS n X O K) (i : Int) (k : Int) = some (aAt n O i k == 1) := by
  rw [g_spec_l11Cone_above, t_spec_l11Cone_above, g_spec_l11Cone_is, t_spec_l11Cone_is, aAt_ix hn' hO hi hk]; rfl

include hn' hO in
theorem btS {i a b : Nat} (hi : i < n) (ha : a < n) (hb : b < n) : g_spec_l11Cone_between (coS n X O K) (i : Int) (a : Int) (b : Int) = some (btB n O i a b) := by
  rw [g_spec_l11Cone_between, t_spec_l11Cone_between]
  simp only [abS (X := X) (K := K) hn' hO hi ha, abS (X := X) (K := K) hn' hO hi hb, abS (X := X) (K := K) hn' hO ha hi, abS (X := X) (K := K) hn' hO hb hi, Option.bind_some, btB]
  cases (aAt n O a i == 1) <;> cases (aAt n O i b == 1) <;> cases (aAt n O b i == 1) <;> cases (aAt n O i a == 1) <;> rfl

include hn' hO in
theorem ouS {i a b : Nat} (hi : i < n) (ha : a < n) (hb : b < n) : g_spec_l11Cone_outside (coS n X O K) (i : Int) (a : Int) (b : Int) = some (ouB n O i a b) := by
  rw [g_spec_l11Cone_outside, t_spec_l11Cone_outside]
  simp only [abS (X := X) (K := K) hn' hO hi ha, abS (X := X) (K := K) hn' hO hi hb, abS (X := X) (K := K) hn' hO ha hi, abS (X := X) (K := K) hn' hO hb hi, Option.bind_some, ouB]
  cases (aAt n O a i == 1) <;> cases (aAt n O i b == 1) <;> cases (aAt n O b i == 1) <;> cases (aAt n O i a == 1) <;> rfl

include hn hn' in
theorem beS {i : Nat} (hi : i < n) : g_spec_l11Cone_before (coS n X O K) (i : Int) = some ((pvI n i : Nat) : Int) := by
  rw [g_spec_l11Cone_before, t_spec_l11Cone_before, dec_f (by simp only []; omega), cond_false]
  try simp only []
  rw [pv_int hn hn' hi]

include hX in
theorem X_get {i : Nat} (hi : i < n) : idx X ((i : Nat) : Int) = some (xAt X i) := ixg (d := 0) (by omega)

include hX hn hn' hO in
theorem crS {i : Nat} (hi : i < n) : g_spec_l11Cone_crossed (coS n X O K) (i : Int) = some (!(crB n X O i)) := by
  rw [g_spec_l11Cone_crossed, t_spec_l11Cone_crossed, beS hn hn' hi, Option.bind_some]
  try simp only []
  have hp := pv_lt hn i
  have h : w_spec_l11Cone_crossed_4 (m_spec_l11Cone_crossed_4 (i : Int) ((pvI n i : Nat) : Int) 0 (n : Int) X (LO n X) (HI n X) K O) = some (cond (crB n X O i) (.inr (.inl d_spec_l11Cone_crossed_4_1)) (.inl (d_spec_l11Cone_crossed_4_0 true))) := by
    refine all_loop (W := fun k => w_spec_l11Cone_crossed_4 (m_spec_l11Cone_crossed_4 (i : Int) ((pvI n i : Nat) : Int) (k : Int) (n : Int) X (LO n X) (HI n X) K O)) ?_ ?_
    · try simp only []
      rw [wq_spec_l11Cone_crossed_4, u_spec_l11Cone_crossed_4, dec_f (by omega), cond_false]; rfl
    · intro k hk
      have hq := pv_lt hn k
      have e1 := btS (X := X) (K := K) hn' hO hk hp hi
      have e2 := btS (X := X) (K := K) hn' hO hq hp hi
      have e3 := ouS (X := X) (K := K) hn' hO hk hp hi
      have e4 := ouS (X := X) (K := K) hn' hO hq hp hi
      have e5 := beS (X := X) (O := O) (K := K) hn hn' hk
      rw [wq_spec_l11Cone_crossed_4, u_spec_l11Cone_crossed_4, dec_t (by omega), cond_true, w1 (by omega)]
      simp only [LO_get hk, HI_get hk, X_get hX hk, X_get hX hi, e1, e2, e3, e4, e5, Option.bind_some, beq_nat, bne, g_spec_l11Cone_right, t_spec_l11Cone_right]
      generalize hy : w_spec_l11Cone_crossed_4 _ = y
      show _ = cond (!(thB n X O i k) && ((k == i) || !(wvB n X O i k))) y _
      unfold thB wvB evB
      cases decide (loAt n X k < xAt X i) <;> cases decide (xAt X i < hiAt n X k) <;> cases btB n O k (pvI n i) i <;> first
        | rfl
        | (cases (k == i) <;> first
          | rfl
          | (cases (xAt X k == xAt X i) <;> first
            | rfl
            | (cases ((Int.tmod (k : Int) 2 == 0) == (Int.tmod (i : Int) 2 == 0)) <;> first
              | rfl
              | (cases btB n O (pvI n k) (pvI n i) i <;> cases ouB n O k (pvI n i) i <;> cases ouB n O (pvI n k) (pvI n i) i <;> rfl))))
  rw [h]
  cases crB n X O i <;> rfl

include hn hn' hO hK in
theorem wrS {i : Nat} (hi : i < n) : g_spec_l11Cone_wrong (coS n X O K) (i : Int) = some (wrB n O K i) := by
  have hp := pv_lt hn i
  have e1 := abS (X := X) (K := K) hn' hO hi hp
  have e2 := abS (X := X) (K := K) hn' hO hp hi
  have e3 : idx K ((i : Nat) : Int) = some (kAt K i) := ixg (d := 0) (by omega)
  rw [g_spec_l11Cone_wrong, t_spec_l11Cone_wrong, beS hn hn' hi, Option.bind_some]
  simp only [e1, e2, e3, Option.bind_some]
  unfold wrB
  cases (Int.tmod (i : Int) 2 == 1) <;> cases (kAt K i == 2) <;> cases (kAt K i == 3) <;> cases (aAt n O i (pvI n i) == 1) <;> cases (aAt n O (pvI n i) i == 1) <;> rfl

include hn' hO in
theorem ciS {i k : Nat} (hi : i < n) (hk : k < n) : g_spec_l11Cone_circle (coS n X O K) (i : Int) (k : Int) = some (!(cicB n X O i k)) := by
  rw [g_spec_l11Cone_circle, t_spec_l11Cone_circle]
  try simp only []
  have h : w_spec_l11Cone_circle_3 (m_spec_l11Cone_circle_3 (i : Int) (k : Int) 0 (n : Int) X (LO n X) (HI n X) K O) = some (cond (cicB n X O i k) (.inr (.inl d_spec_l11Cone_circle_3_1)) (.inl (d_spec_l11Cone_circle_3_0 true))) := by
    refine all_loop (W := fun j => w_spec_l11Cone_circle_3 (m_spec_l11Cone_circle_3 (i : Int) (k : Int) (j : Int) (n : Int) X (LO n X) (HI n X) K O)) ?_ ?_
    · try simp only []
      rw [wq_spec_l11Cone_circle_3, u_spec_l11Cone_circle_3, dec_f (by omega), cond_false]; rfl
    · intro j hj
      have e1 := abS (X := X) (K := K) hn' hO hi hk
      have e2 := abS (X := X) (K := K) hn' hO hk hi
      have e3 := abS (X := X) (K := K) hn' hO hi hj
      have e4 := abS (X := X) (K := K) hn' hO hj hi
      have e5 := abS (X := X) (K := K) hn' hO hk hj
      have e6 := abS (X := X) (K := K) hn' hO hj hk
      rw [wq_spec_l11Cone_circle_3, u_spec_l11Cone_circle_3, dec_t (by omega), cond_true, w1 (by omega)]
      simp only [LO_get hi, HI_get hi, LO_get hk, HI_get hk, LO_get hj, HI_get hj, e1, e2, e3, e4, e5, e6, maxS, minS, Option.bind_some]
      generalize hy : w_spec_l11Cone_circle_3 _ = y
      show _ = cond (!(ciB n X O i k j)) y _
      unfold ciB ov3
      cases decide (max (loAt n X i) (max (loAt n X k) (loAt n X j)) < min (hiAt n X i) (min (hiAt n X k) (hiAt n X j))) <;> first
        | rfl
        | (cases (aAt n O i k == 1) <;> cases (aAt n O k i == 1) <;> cases (aAt n O k j == 1) <;> cases (aAt n O i j == 1) <;> cases (aAt n O j i == 1) <;> cases (aAt n O j k == 1) <;> rfl)
  rw [h]
  cases cicB n X O i k <;> rfl

include hX hn hn' hO hK in
theorem goodS : g_spec_l11Cone_good (coS n X O K) = some (gdS n X O K) := by
  rw [g_spec_l11Cone_good, t_spec_l11Cone_good]
  try simp only []
  have h : w_spec_l11Cone_good_3 (m_spec_l11Cone_good_3 0 (n : Int) X (LO n X) (HI n X) K O) = some (cond (gdS n X O K) (.inr (.inl d_spec_l11Cone_good_3_1)) (.inl (d_spec_l11Cone_good_3_0 false))) := by
    refine all_loop (W := fun i => w_spec_l11Cone_good_3 (m_spec_l11Cone_good_3 (i : Int) (n : Int) X (LO n X) (HI n X) K O)) ?_ ?_
    · try simp only []
      rw [wq_spec_l11Cone_good_3, u_spec_l11Cone_good_3, dec_f (by omega), cond_false]; rfl
    · intro i hi
      have hin : w_spec_l11Cone_good_8 (m_spec_l11Cone_good_8 (i : Int) 0 (n : Int) X (LO n X) (HI n X) K O) = some (cond ((List.range i).all fun k => !(ov n X i k && !(cicB n X O i k))) (.inr (.inl (d_spec_l11Cone_good_8_1 (i : Int) (n : Int) X (LO n X) (HI n X) K O))) (.inl (d_spec_l11Cone_good_8_0 false (i : Int) (n : Int) X (LO n X) (HI n X) K O))) := by
        refine all_loop (W := fun k => w_spec_l11Cone_good_8 (m_spec_l11Cone_good_8 (i : Int) (k : Int) (n : Int) X (LO n X) (HI n X) K O)) ?_ ?_
        · try simp only []
          rw [wq_spec_l11Cone_good_8, u_spec_l11Cone_good_8, dec_f (by omega), cond_false]; rfl
        · intro k hk
          have e1 := ovS (X := X) (O := O) (K := K) hi (show k < n by omega)
          have e2 := ciS (X := X) (K := K) hn' hO hi (show k < n by omega)
          rw [wq_spec_l11Cone_good_8, u_spec_l11Cone_good_8, dec_t (by omega), cond_true, w1 (by omega)]
          simp only [e1, e2, Option.bind_some]
          generalize hy : w_spec_l11Cone_good_8 _ = y
          cases ov n X i k <;> cases cicB n X O i k <;> rfl
      have e1 := crS (X := X) (K := K) hX hn hn' hO hi
      have e2 := wrS (X := X) (K := K) hn hn' hO hK hi
      rw [wq_spec_l11Cone_good_3, u_spec_l11Cone_good_3, dec_t (by omega), cond_true]
      simp only [e1, e2, Option.bind_some, hin]
      cases crB n X O i
      · rfl
      · cases wrB n O K i
        · cases ((List.range i).all fun k => !(ov n X i k && !(cicB n X O i k)))
          · rfl
          · simp only [Bool.not_true, cond_false, cond_true, exC, Bool.not_false, Bool.true_and]
            rw [w1 (by omega)]
        · rfl
  rw [h]
  cases gdS n X O K <;> rfl
end
end Go.Proofs.Ytjfgddmngnkfdaa
