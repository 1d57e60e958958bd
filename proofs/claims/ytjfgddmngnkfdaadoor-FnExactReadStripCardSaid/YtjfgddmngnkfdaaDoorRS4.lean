/- Numbers in decimal. No conditions. -/
import Derived.Test.YtjfgddmngnkfdaaDoorPK
import Derived.Test.YtjfgddmngnkfdaaDoorRS2
import Derived.Lib.ItoaLen
import Derived.Lib.ItoaMem
namespace Go.Proofs.YtjfgddmngnkfdaaDoor
open Go.Vai
/-! texts as lists of bytes -/
theorem app_list (a b : ByteArray) : (a ++ b).data.toList = a.data.toList ++ b.data.toList := by
  rw [ByteArray.data_append, Array.toList_append]
theorem app_size (a b : ByteArray) : (a ++ b).size = a.size + b.size := ByteArray.size_append
theorem mk_size (l : List UInt8) : (ByteArray.mk l.toArray).size = l.length := by
  show l.toArray.size = _
  simp
theorem ba_eq {a b : ByteArray} (h : a.data.toList = b.data.toList) : a = b := by
  cases a; cases b; congr 1; exact Array.toList_inj.1 h
theorem sz_small {n : Nat} (h : n ≤ 4611686018427387904) : decide (((n : Nat) : Int) > (if (Bool.true = Bool.true) then (((2 : Int) ^ (64 - 1)) - (1 : Int)) else (((2 : Int) ^ 64) - (1 : Int)))) = false := by
  rw [if_pos rfl]
  have e : ((2 : Int) ^ (64 - 1)) - 1 = 9223372036854775807 := by decide
  rw [e]
  exact dec_f (by omega)
theorem wrap_u8 {n : Int} (h0 : 0 ≤ n) (h1 : n ≤ 255) : IntKind.wrap .u8 n = n := by
  have e : IntKind.wrap .u8 n = n % 256 := by
    simp only [IntKind.wrap, IntKind.bits, IntKind.signed]
    simp
  rw [e]; omega

/-! decimal -/
theorem digit_ok' {a : Int} (h0 : 0 ≤ a) (h1 : a < 10) : UInt8.ofNat (Int.toNat (IntKind.wrap IntKind.u8 (IntKind.wrap IntKind.i64 ((48 : Int) + a)))) = UInt8.ofNat (48 + a.toNat) := by
  rw [wrap_id (by omega) (by omega), wrap_u8 (by omega) (by omega)]
  congr 1
  omega

theorem self_dec (f : S_spec_l01Dec) (x : Int) : @self_spec_l01Dec ⟨f⟩ x = f x := rfl

theorem digits_len : ∀ (N u : Nat), u < 10 ^ N → 1 ≤ N → (Lib.decDigits u).length ≤ N
  | 0, _, _, h => absurd h (by omega)
  | N + 1, u, h, _ => by
    rw [Lib.decDigits]
    by_cases hu : u < 10
    · rw [dif_pos hu]; simp
    · rw [dif_neg hu, List.length_append]
      have h1 : 1 ≤ N := by
        cases N with
        | zero => simp at h; omega
        | succ N => omega
      have := digits_len N (u / 10) (by rw [Nat.pow_succ] at h; omega) h1
      simp; omega

theorem dec_nat : ∀ (N u : Nat), u < 10 ^ N → 1 ≤ N → N ≤ 18 → gN_spec_l01Dec N (u : Int) = some ⟨(Lib.decDigits u).toArray⟩
  | 0, _, _, h, _ => absurd h (by omega)
  | N + 1, u, h, _, hN => by
    have hb : u < 10 ^ 18 := Nat.lt_of_lt_of_le h (Nat.pow_le_pow_right (by omega) hN)
    have hb' : (10 : Nat) ^ 18 = 1000000000000000000 := by decide
    rw [hb'] at hb
    show @g_spec_l01Dec_r ⟨gN_spec_l01Dec N⟩ (u : Int) = _
    unfold g_spec_l01Dec_r t_spec_l01Dec_r
    rw [dec_f (p := (u : Int) < 0) (by omega), cond_false, cond_false, Lib.decDigits]
    by_cases hu : u < 10
    · rw [dec_t (p := (u : Int) < 10) (by omega), cond_true, dif_pos hu, digit_ok' (by omega) (by omega), Int.toNat_natCast]
    · have h1 : 1 ≤ N := by
        cases N with
        | zero => simp at h; omega
        | succ N => omega
      have hlt : u / 10 < 10 ^ N := by rw [Nat.pow_succ] at h; omega
      have IH := dec_nat N (u / 10) hlt h1 (by omega)
      have hl := digits_len N (u / 10) hlt h1
      have e1 : Int.tdiv (u : Int) 10 = ((u / 10 : Nat) : Int) := by
        rw [Int.tdiv_eq_ediv_of_nonneg (by omega)]; omega
      have e2 : Int.tmod (u : Int) 10 = ((u % 10 : Nat) : Int) := by
        rw [Int.tmod_eq_emod_of_nonneg (by omega)]; omega
      rw [dec_f (p := (u : Int) < 10) (by omega), cond_false, dif_neg hu, e1, e2, wrap_id (n := ((u / 10 : Nat) : Int)) (by omega) (by omega), self_dec, IH, Option.bind_some, digit_ok' (by omega) (by omega), Int.toNat_natCast,
        sz_small (by rw [mk_size]; show _ + 1 ≤ _; omega), cond_false]
      refine congrArg some (ba_eq ?_)
      rw [app_list]

theorem dec_neg : ∀ (N u : Nat), 1 ≤ u → u < 10 ^ N → 1 ≤ N → N ≤ 17 → gN_spec_l01Dec (N + 1) (-(u : Int)) = some ⟨(45 :: Lib.decDigits u).toArray⟩
  | 0, _, _, _, h, _ => absurd h (by omega)
  | N + 1, u, h0, h, _, hN => by
    have hb : u < 10 ^ 18 := Nat.lt_of_lt_of_le h (Nat.pow_le_pow_right (by omega) (by omega))
    have hb' : (10 : Nat) ^ 18 = 1000000000000000000 := by decide
    rw [hb'] at hb
    show @g_spec_l01Dec_r ⟨gN_spec_l01Dec (N + 1)⟩ (-(u : Int)) = _
    unfold g_spec_l01Dec_r t_spec_l01Dec_r
    rw [dec_t (p := -(u : Int) < 0) (by omega), cond_true]
    by_cases hu : u < 10
    · have hs : (ByteArray.mk (Array.mk [45])).size + (ByteArray.mk (Lib.decDigits u).toArray).size ≤ 4611686018427387904 := by
        have := digits_len (N + 1) u h (by omega)
        rw [mk_size (Lib.decDigits u)]; show 1 + _ ≤ _; omega
      rw [dec_t (p := -(u : Int) > -10) (by omega), cond_true, wrap_id (n := 0 - -(u : Int)) (by omega) (by omega), show (0 : Int) - -(u : Int) = (u : Int) by omega, self_dec, dec_nat (N + 1) u h (by omega) (by omega), Option.bind_some,
        sz_small hs, cond_false]
      refine congrArg some (ba_eq ?_)
      rw [app_list]; rfl
    · have h1 : 1 ≤ N := by
        cases N with
        | zero => simp at h; omega
        | succ N => omega
      have hlt : u / 10 < 10 ^ N := by rw [Nat.pow_succ] at h; omega
      have IH := dec_neg N (u / 10) (by omega) hlt h1 (by omega)
      have hl := digits_len N (u / 10) hlt h1
      have hd := dec_nat (N + 1) (u % 10) (Nat.lt_of_lt_of_le (Nat.mod_lt _ (by omega)) (by rw [Nat.pow_succ]; have : 0 < 10 ^ N := Nat.pow_pos (by omega); omega)) (by omega) (by omega)
      rw [Lib.decDigits_one (Nat.mod_lt _ (by omega))] at hd
      have e1 : Int.tdiv (-(u : Int)) 10 = -((u / 10 : Nat) : Int) := by
        rw [Int.neg_tdiv, Int.tdiv_eq_ediv_of_nonneg (by omega)]; omega
      have e2 : (0 : Int) - Int.tmod (-(u : Int)) 10 = ((u % 10 : Nat) : Int) := by
        rw [Int.neg_tmod, Int.tmod_eq_emod_of_nonneg (by omega)]; omega
      have hs : (ByteArray.mk (45 :: Lib.decDigits (u / 10)).toArray).size + (ByteArray.mk [UInt8.ofNat (48 + u % 10)].toArray).size ≤ 4611686018427387904 := by
        rw [mk_size, mk_size]; simp; omega
      rw [dec_f (p := -(u : Int) > -10) (by omega), cond_false, cond_true, e1, e2, wrap_id (n := -((u / 10 : Nat) : Int)) (by omega) (by omega), wrap_id (n := ((u % 10 : Nat) : Int)) (by omega) (by omega), self_dec, self_dec, IH, Option.bind_some, hd, Option.bind_some,
        sz_small hs, cond_false]
      refine congrArg some (ba_eq ?_)
      rw [app_list]
      rw [Lib.decDigits.eq_def u, dif_neg hu]
      rfl

theorem gN_mono : ∀ (N : Nat) (n : Int) (y : ByteArray), gN_spec_l01Dec N n = some y → gN_spec_l01Dec (N + 1) n = some y
  | 0, n, y, h => by cases h
  | N + 1, n, y, h => by
    have IH := gN_mono N
    have step : ∀ {x : Int} {k : ByteArray → Option ByteArray}, Option.bind (gN_spec_l01Dec N x) k = some y → Option.bind (gN_spec_l01Dec (N + 1) x) k = some y := by
      intro x k h
      cases hx : gN_spec_l01Dec N x with
      | none => rw [hx] at h; cases h
      | some z => rw [hx] at h; rw [IH x z hx]; exact h
    have step2 : ∀ {x x' : Int} {k : ByteArray → ByteArray → Option ByteArray}, (Option.bind (gN_spec_l01Dec N x) fun a => Option.bind (gN_spec_l01Dec N x') (k a)) = some y →
        (Option.bind (gN_spec_l01Dec (N + 1) x) fun a => Option.bind (gN_spec_l01Dec (N + 1) x') (k a)) = some y := by
      intro x x' k h
      cases hx : gN_spec_l01Dec N x with
      | none => rw [hx] at h; cases h
      | some z =>
        rw [hx] at h; rw [IH x z hx]
        exact step h
    have h' : @g_spec_l01Dec_r ⟨gN_spec_l01Dec N⟩ n = some y := h
    show @g_spec_l01Dec_r ⟨gN_spec_l01Dec (N + 1)⟩ n = some y
    unfold g_spec_l01Dec_r t_spec_l01Dec_r at h' ⊢
    simp only [self_dec] at h' ⊢
    by_cases hn : n < 0
    · rw [dec_t hn] at h' ⊢
      simp only [cond_true] at h' ⊢
      by_cases h10 : n > -10
      · rw [dec_t h10] at h' ⊢
        exact step h'
      · rw [dec_f h10] at h' ⊢
        exact step2 h'
    · rw [dec_f hn] at h' ⊢
      simp only [cond_false] at h' ⊢
      by_cases h10 : n < 10
      · rw [dec_t h10] at h' ⊢
        exact h'
      · rw [dec_f h10] at h' ⊢
        exact step h'

theorem gN_le {N M : Nat} (hNM : N ≤ M) {n : Int} {y : ByteArray} (h : gN_spec_l01Dec N n = some y) : gN_spec_l01Dec M n = some y := by
  induction M with
  | zero => have : N = 0 := by omega
            subst this; exact h
  | succ M ih =>
    by_cases hh : N = M + 1
    · subst hh; exact h
    · exact gN_mono M n y (ih (by omega))

/-- The reference's decimal text. -/
theorem spec_dec {n : Int} (h0 : -100000000000000000 < n) (h1 : n < 100000000000000000) : g_spec_l01Dec n = some ⟨(Lib.itoa n).toArray⟩ := by
  show gN_spec_l01Dec 1000 n = _
  have e : (10 : Nat) ^ 17 = 100000000000000000 := by decide
  by_cases h : n < 0
  · obtain ⟨u, hu⟩ := Int.eq_ofNat_of_zero_le (show 0 ≤ -n by omega)
    have hn : n = -(u : Int) := by omega
    subst hn
    rw [Lib.itoa_neg u (by omega)]
    exact gN_le (N := 18) (by omega) (dec_neg 17 u (by omega) (by omega) (by omega) (by omega))
  · obtain ⟨u, hu⟩ := Int.eq_ofNat_of_zero_le (show 0 ≤ n by omega)
    subst hu
    rw [Lib.itoa_nonneg u]
    exact gN_le (N := 17) (by omega) (dec_nat 17 u (by omega) (by omega) (by omega))

theorem itoa_len {n : Int} (h0 : -100000000000000000 < n) (h1 : n < 100000000000000000) : (Lib.itoa n).length ≤ 21 := Lib.itoa_length_le n (by omega) (by omega)
theorem itoa_size {n : Int} (h0 : -100000000000000000 < n) (h1 : n < 100000000000000000) : (ByteArray.mk (Lib.itoa n).toArray).size ≤ 21 := by
  rw [mk_size]; exact itoa_len h0 h1

theorem impl_dec {n : Int} (h0 : -100000000000000000 < n) (h1 : n < 100000000000000000) : g_impl_decimal n = some ⟨(Lib.itoa n).toArray⟩ := by
  rw [g_impl_decimal, t_impl_decimal, g_strconv_FormatInt, if_pos ⟨by omega, by omega, rfl⟩]; rfl
end Go.Proofs.YtjfgddmngnkfdaaDoor
