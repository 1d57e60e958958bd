/- The texts of numbers, points, lines. No conditions. -/
import Derived.Test.YtjkljnflaifbhaaDoorCT5
import Derived.Test.YtjkljnflaifbhaaDoorCT6
namespace Go.Proofs.YtjkljnflaifbhaaDoor
open Go.Vai
/-! the text of a number -/
def bodyT (a b : Int) : List UInt8 :=
  if b = 0 then Lib.itoa a else if a = 0 then Lib.itoa b ++ [114] else Lib.itoa a ++ ((if b < 0 then Lib.itoa b else 43 :: Lib.itoa b) ++ [114])
def numT (x : Nm) : List UInt8 :=
  if x.2.2 = 0 then bodyT x.1 x.2.1 else (if x.1 ≠ 0 ∧ x.2.1 ≠ 0 then 40 :: bodyT x.1 x.2.1 ++ [41] else bodyT x.1 x.2.1) ++ 47 :: Lib.itoa ((2 ^ x.2.2.toNat : Nat) : Int)

theorem sz_smallT {n : Nat} (h : n ≤ 4611686018427387904) : decide (((n : Nat) : Int) > (if True then (((2 : Int) ^ (64 - 1)) - (1 : Int)) else (((2 : Int) ^ 64) - (1 : Int)))) = false := sz_small h

theorem pow_small {k : Int} (h0 : 0 ≤ k) (h1 : k ≤ 10) : IntKind.wrap .i64 ((1 : Int) * ((2 : Int) ^ (Min.min (Int.toNat k) 64))) = ((2 ^ k.toNat : Nat) : Int) ∧ (2 ^ k.toNat : Nat) ≤ 1024 := by
  have : k = 0 ∨ k = 1 ∨ k = 2 ∨ k = 3 ∨ k = 4 ∨ k = 5 ∨ k = 6 ∨ k = 7 ∨ k = 8 ∨ k = 9 ∨ k = 10 := by omega
  rcases this with rfl | rfl | rfl | rfl | rfl | rfl | rfl | rfl | rfl | rfl | rfl <;> decide

theorem abs_ok {b : Int} (h0 : -131072 ≤ b) (h1 : b ≤ 131072) : g_impl_abs b = some (if b < 0 then -b else b) := by
  rw [g_impl_abs, t_impl_abs, if_pos rfl, wrap_id (n := 0 - b) (by omega) (by omega)]
  by_cases h : b < 0
  · rw [if_pos (by omega), if_pos h, show 0 - b = -b by omega]
  · by_cases h2 : (0 : Int) - b > b
    · omega
    · rw [if_neg h2, if_neg h]

theorem itoa_minus {b : Int} (h : b < 0) : Lib.itoa b = 45 :: Lib.itoa (-b) := by
  obtain ⟨u, hu⟩ := Int.eq_ofNat_of_zero_le (show 0 ≤ -b by omega)
  have hb : b = -(u : Int) := by omega
  subst hb
  rw [Lib.itoa_neg u (by omega), Int.neg_neg, Lib.itoa_nonneg]

theorem okN_inv {x : Nm} (h : okN x = true) : -131072 ≤ x.1 ∧ x.1 ≤ 131072 ∧ -131072 ≤ x.2.1 ∧ x.2.1 ≤ 131072 ∧ 0 ≤ x.2.2 ∧ x.2.2 ≤ 10 := by
  simp only [okN, Bool.and_eq_true, decide_eq_true_eq] at h
  exact ⟨h.1.1, h.1.2, h.2.1.1, h.2.1.2, h.2.2.1.1, h.2.2.1.2⟩

theorem mk_list (l : List UInt8) : (ByteArray.mk l.toArray).data.toList = l := by simp
theorem one_list (c : UInt8) : (ByteArray.mk (Array.mk [c])).data.toList = [c] := rfl
theorem one_size (c : UInt8) : (ByteArray.mk (Array.mk [c])).size = 1 := rfl

theorem impl_num (x : Nm) (h : okN x = true) : ∃ s, g_impl_numText x = some s ∧ s.data.toList = numT x ∧ s.size ≤ 80 := by
  obtain ⟨a, b, k⟩ := x
  obtain ⟨h1, h2, h3, h4, h5, h6⟩ := okN_inv h
  simp only at h1 h2 h3 h4 h5 h6
  obtain ⟨hp, hp'⟩ := pow_small h5 h6
  have dA := impl_dec (n := a) (by omega) (by omega)
  have dB := impl_dec (n := b) (by omega) (by omega)
  have dC := impl_dec (n := if b < 0 then -b else b) (by split <;> omega) (by split <;> omega)
  have p0 : (-100000000000000000 : Int) < ((2 ^ k.toNat : Nat) : Int) := Int.lt_of_lt_of_le (by decide) (Int.natCast_nonneg _)
  have p1 : ((2 ^ k.toNat : Nat) : Int) < 100000000000000000 := Int.lt_of_le_of_lt (Int.ofNat_le.2 hp') (by decide)
  have dP := impl_dec p0 p1
  have sA := itoa_size (n := a) (by omega) (by omega)
  have sB := itoa_size (n := b) (by omega) (by omega)
  have sC := itoa_size (n := if b < 0 then -b else b) (by split <;> omega) (by split <;> omega)
  have sP := itoa_size p0 p1
  have aB := abs_ok h3 h4
  have ek : decide (k < 0) = false := dec_f (by omega)
  rw [g_impl_numText, t_impl_numText]
  simp only [dA, dB, aB, dC, hp, dP, ek, Option.bind_some, cond_false]
  by_cases a0 : a = 0
  · have e1 : (a == 0) = true := by simp [a0]
    simp only [e1, cond_true]
    by_cases b0 : b = 0
    · have e2 : (b != 0) = false := by simp [b0]
      simp only [e2, cond_false]
      by_cases k0 : k = 0
      · have e3 : (k != 0) = false := by simp [k0]
        simp only [e3, cond_false]
        exact ⟨_, rfl, by simp [numT, bodyT, a0, b0, k0, mk_list], by omega⟩
      · have e3 : (k != 0) = true := by simp [k0]
        simp only [e3, cond_true]
        repeat rw [sz_smallT (by first | omega | (simp only [app_size, one_size]; omega)), cond_false]
        exact ⟨_, rfl, by simp [numT, bodyT, a0, b0, k0, mk_list, app_list], by simp only [app_size, one_size]; omega⟩
    · have e2 : (b != 0) = true := by simp [b0]
      simp only [e2, cond_true]
      by_cases k0 : k = 0
      · have e3 : (k != 0) = false := by simp [k0]
        simp only [e3, cond_false]
        repeat rw [sz_smallT (by first | omega | (simp only [app_size, one_size]; omega)), cond_false]
        exact ⟨_, rfl, by simp [numT, bodyT, a0, b0, k0, mk_list, app_list], by simp only [app_size, one_size]; omega⟩
      · have e3 : (k != 0) = true := by simp [k0]
        simp only [e3, cond_true]
        repeat rw [sz_smallT (by first | omega | (simp only [app_size, one_size]; omega)), cond_false]
        exact ⟨_, rfl, by simp [numT, bodyT, a0, b0, k0, mk_list, app_list], by simp only [app_size, one_size]; omega⟩
  · have e1 : (a == 0) = false := by simp [a0]
    simp only [e1, cond_false]
    by_cases b0 : b = 0
    · have e2 : (b != 0) = false := by simp [b0]
      simp only [e2, cond_false]
      by_cases k0 : k = 0
      · have e3 : (k != 0) = false := by simp [k0]
        simp only [e3, cond_false]
        exact ⟨_, rfl, by simp [numT, bodyT, b0, k0, mk_list], by omega⟩
      · have e3 : (k != 0) = true := by simp [k0]
        simp only [e3, cond_true]
        repeat rw [sz_smallT (by first | omega | (simp only [app_size, one_size]; omega)), cond_false]
        exact ⟨_, rfl, by simp [numT, bodyT, b0, k0, mk_list, app_list], by simp only [app_size, one_size]; omega⟩
    · have e2 : (b != 0) = true := by simp [b0]
      simp only [e2, cond_true]
      by_cases bn : b < 0
      · have e4 : decide (b < 0) = true := dec_t bn
        have hb := itoa_minus bn
        rw [if_pos bn] at sC
        simp only [e4, cond_true, if_pos bn]
        by_cases k0 : k = 0
        · have e3 : (k != 0) = false := by simp [k0]
          simp only [e3, cond_false]
          repeat rw [sz_smallT (by first | omega | (simp only [app_size, one_size]; omega)), cond_false]
          exact ⟨_, rfl, by simp [numT, bodyT, a0, b0, bn, k0, mk_list, app_list, hb], by simp only [app_size, one_size]; omega⟩
        · have e3 : (k != 0) = true := by simp [k0]
          simp only [e3, cond_true]
          repeat rw [sz_smallT (by first | omega | (simp only [app_size, one_size]; omega)), cond_false]
          exact ⟨_, rfl, by simp [numT, bodyT, a0, b0, bn, k0, mk_list, app_list, hb], by simp only [app_size, one_size]; omega⟩
      · have e4 : decide (b < 0) = false := dec_f bn
        rw [if_neg bn] at sC
        simp only [e4, cond_false, if_neg bn]
        by_cases k0 : k = 0
        · have e3 : (k != 0) = false := by simp [k0]
          simp only [e3, cond_false]
          repeat rw [sz_smallT (by first | omega | (simp only [app_size, one_size]; omega)), cond_false]
          exact ⟨_, rfl, by simp [numT, bodyT, a0, b0, bn, k0, mk_list, app_list], by simp only [app_size, one_size]; omega⟩
        · have e3 : (k != 0) = true := by simp [k0]
          simp only [e3, cond_true]
          repeat rw [sz_smallT (by first | omega | (simp only [app_size, one_size]; omega)), cond_false]
          exact ⟨_, rfl, by simp [numT, bodyT, a0, b0, bn, k0, mk_list, app_list], by simp only [app_size, one_size]; omega⟩

theorem wrap_u64 {n : Int} (h0 : 0 ≤ n) (h1 : n ≤ 18446744073709551615) : IntKind.wrap .u64 n = n := by
  have e : IntKind.wrap .u64 n = n % 18446744073709551616 := by
    simp only [IntKind.wrap, IntKind.bits, IntKind.signed]
    simp
  rw [e]; omega

theorem spec_num (x : Nm) (h : okN x = true) : ∃ s, g_spec_l01Text x = some s ∧ s.data.toList = numT x ∧ s.size ≤ 80 := by
  obtain ⟨a, b, k⟩ := x
  obtain ⟨h1, h2, h3, h4, h5, h6⟩ := okN_inv h
  simp only at h1 h2 h3 h4 h5 h6
  obtain ⟨hp, hp'⟩ := pow_small h5 h6
  have dA := spec_dec (n := a) (by omega) (by omega)
  have dB := spec_dec (n := b) (by omega) (by omega)
  have p0 : (-100000000000000000 : Int) < ((2 ^ k.toNat : Nat) : Int) := Int.lt_of_lt_of_le (by decide) (Int.natCast_nonneg _)
  have p1 : ((2 ^ k.toNat : Nat) : Int) < 100000000000000000 := Int.lt_of_le_of_lt (Int.ofNat_le.2 hp') (by decide)
  have dP := spec_dec p0 p1
  have sA := itoa_size (n := a) (by omega) (by omega)
  have sB := itoa_size (n := b) (by omega) (by omega)
  have sP := itoa_size p0 p1
  have wk := wrap_u64 h5 (by omega)
  have ek : decide (k < 0) = false := dec_f (by omega)
  rw [g_spec_l01Text, t_spec_l01Text]
  simp only [dA, dB, wk, hp, dP, ek, Option.bind_some, cond_false]
  by_cases b0 : b = 0
  · have e2 : (b == 0) = true := by simp [b0]
    have e2' : (b != 0) = false := by simp [b0]
    simp only [e2, e2', cond_true, cond_false]
    by_cases k0 : k = 0
    · have e3 : (k == 0) = true := by simp [k0]
      simp only [e3, cond_true]
      exact ⟨_, rfl, by simp [numT, bodyT, b0, k0, mk_list], by omega⟩
    · have e3 : (k == 0) = false := by simp [k0]
      simp only [e3, cond_false]
      cases (a != 0)
      · simp only [cond_false]
        repeat rw [sz_smallT (by first | omega | (simp only [app_size, one_size]; omega)), cond_false]
        exact ⟨_, rfl, by simp [numT, bodyT, b0, k0, mk_list, app_list], by simp only [app_size, one_size]; omega⟩
      · simp only [cond_true]
        repeat rw [sz_smallT (by first | omega | (simp only [app_size, one_size]; omega)), cond_false]
        exact ⟨_, rfl, by simp [numT, bodyT, b0, k0, mk_list, app_list], by simp only [app_size, one_size]; omega⟩
  · have e2 : (b == 0) = false := by simp [b0]
    have e2' : (b != 0) = true := by simp [b0]
    simp only [e2, e2', cond_true, cond_false]
    by_cases a0 : a = 0
    · have e1 : (a == 0) = true := by simp [a0]
      have e1' : (a != 0) = false := by simp [a0]
      simp only [e1, e1', cond_true, cond_false]
      by_cases k0 : k = 0
      · have e3 : (k == 0) = true := by simp [k0]
        simp only [e3, cond_true]
        repeat rw [sz_smallT (by first | omega | (simp only [app_size, one_size]; omega)), cond_false]
        exact ⟨_, rfl, by simp [numT, bodyT, a0, b0, k0, mk_list, app_list], by simp only [app_size, one_size]; omega⟩
      · have e3 : (k == 0) = false := by simp [k0]
        simp only [e3, cond_false]
        repeat rw [sz_smallT (by first | omega | (simp only [app_size, one_size]; omega)), cond_false]
        exact ⟨_, rfl, by simp [numT, bodyT, a0, b0, k0, mk_list, app_list], by simp only [app_size, one_size]; omega⟩
    · have e1 : (a == 0) = false := by simp [a0]
      have e1' : (a != 0) = true := by simp [a0]
      simp only [e1, e1', cond_true, cond_false]
      by_cases bn : b < 0
      · have e4 : decide (b > 0) = false := dec_f (by omega)
        simp only [e4, cond_false]
        by_cases k0 : k = 0
        · have e3 : (k == 0) = true := by simp [k0]
          simp only [e3, cond_true]
          repeat rw [sz_smallT (by first | omega | (simp only [app_size, one_size]; omega)), cond_false]
          exact ⟨_, rfl, by simp [numT, bodyT, a0, b0, bn, k0, mk_list, app_list], by simp only [app_size, one_size]; omega⟩
        · have e3 : (k == 0) = false := by simp [k0]
          simp only [e3, cond_false]
          repeat rw [sz_smallT (by first | omega | (simp only [app_size, one_size]; omega)), cond_false]
          exact ⟨_, rfl, by simp [numT, bodyT, a0, b0, bn, k0, mk_list, app_list], by simp only [app_size, one_size]; omega⟩
      · have e4 : decide (b > 0) = true := dec_t (by omega)
        simp only [e4, cond_true]
        by_cases k0 : k = 0
        · have e3 : (k == 0) = true := by simp [k0]
          simp only [e3, cond_true]
          repeat rw [sz_smallT (by first | omega | (simp only [app_size, one_size]; omega)), cond_false]
          exact ⟨_, rfl, by simp [numT, bodyT, a0, b0, bn, k0, mk_list, app_list], by simp only [app_size, one_size]; omega⟩
        · have e3 : (k == 0) = false := by simp [k0]
          simp only [e3, cond_false]
          repeat rw [sz_smallT (by first | omega | (simp only [app_size, one_size]; omega)), cond_false]
          exact ⟨_, rfl, by simp [numT, bodyT, a0, b0, bn, k0, mk_list, app_list], by simp only [app_size, one_size]; omega⟩

def ptT (p : Pt) : List UInt8 := 40 :: numT p.1 ++ 44 :: numT p.2 ++ [41]
theorem impl_pt (p : Pt) (h : okP p = true) : ∃ s, g_impl_pointText p = some s ∧ s.data.toList = ptT p ∧ s.size ≤ 200 := by
  simp only [okP, Bool.and_eq_true] at h
  obtain ⟨a, ha, ha', sa⟩ := impl_num p.1 h.1
  obtain ⟨b, hb, hb', sb⟩ := impl_num p.2 h.2
  rw [g_impl_pointText, t_impl_pointText, ha, hb]
  simp only [Option.bind_some]
  repeat rw [sz_smallT (by first | omega | (simp only [app_size, one_size]; omega)), cond_false]
  exact ⟨_, rfl, by simp [ptT, app_list, ha', hb'], by simp only [app_size, one_size]; omega⟩
theorem spec_pt (p : Pt) (h : okP p = true) : ∃ s, g_spec_l02Text p = some s ∧ s.data.toList = ptT p ∧ s.size ≤ 200 := by
  simp only [okP, Bool.and_eq_true] at h
  obtain ⟨a, ha, ha', sa⟩ := spec_num p.1 h.1
  obtain ⟨b, hb, hb', sb⟩ := spec_num p.2 h.2
  rw [g_spec_l02Text, t_spec_l02Text, ha, hb]
  simp only [Option.bind_some]
  repeat rw [sz_smallT (by first | omega | (simp only [app_size, one_size]; omega)), cond_false]
  exact ⟨_, rfl, by simp [ptT, app_list, ha', hb'], by simp only [app_size, one_size]; omega⟩

def lnT (l : Ln) : List UInt8 := Lib.itoa l.1 ++ 64 :: numT l.2
theorem impl_ln (l : Ln) (h : okL l = true) : ∃ s, g_impl_lineText l = some s ∧ s.data.toList = lnT l ∧ s.size ≤ 200 := by
  simp only [okL, Bool.and_eq_true, decide_eq_true_eq] at h
  obtain ⟨a, ha, ha', sa⟩ := impl_num l.2 h.2
  have hd := impl_dec (n := l.1) (by omega) (by omega)
  have sd := itoa_size (n := l.1) (by omega) (by omega)
  rw [g_impl_lineText, t_impl_lineText, ha, hd]
  simp only [Option.bind_some]
  repeat rw [sz_smallT (by first | omega | (simp only [app_size, one_size]; omega)), cond_false]
  exact ⟨_, rfl, by simp [lnT, app_list, ha', mk_list], by simp only [app_size, one_size]; omega⟩
theorem spec_ln (l : Ln) (h : okL l = true) : ∃ s, g_spec_LineText l = some s ∧ s.data.toList = lnT l ∧ s.size ≤ 200 := by
  have hv := spec_okL l
  rw [h] at hv
  simp only [okL, Bool.and_eq_true, decide_eq_true_eq] at h
  obtain ⟨a, ha, ha', sa⟩ := spec_num l.2 h.2
  have hd := spec_dec (n := l.1) (by omega) (by omega)
  have sd := itoa_size (n := l.1) (by omega) (by omega)
  rw [g_spec_LineText, t_spec_LineText, hv, ha, hd]
  simp only [Option.bind_some, Bool.not_true, cond_false]
  repeat rw [sz_smallT (by first | omega | (simp only [app_size, one_size]; omega)), cond_false]
  exact ⟨_, rfl, by simp [lnT, app_list, ha', mk_list], by simp only [app_size, one_size]; omega⟩
end Go.Proofs.YtjkljnflaifbhaaDoor
