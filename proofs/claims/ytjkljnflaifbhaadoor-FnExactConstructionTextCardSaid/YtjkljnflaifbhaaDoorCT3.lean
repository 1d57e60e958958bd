/- Names, valid numbers, points, lines. No conditions. -/
import Derived.Test.YtjkljnflaifbhaaDoorPK
import Derived.Test.YtjkljnflaifbhaaDoorAL1
import Derived.Test.YtjkljnflaifbhaaDoorCT2
namespace Go.Proofs.YtjkljnflaifbhaaDoor
open Go.Vai
def I64 (a : Int) : Prop := -9223372036854775808 ≤ a ∧ a ≤ 9223372036854775807

theorem wI {a : Int} (h : I64 a) : IntKind.wrap .i64 a = a := wrap_id h.1 h.2

theorem tmod2 (a : Int) : (Int.tmod a 2 == 0) = decide (a % 2 = 0) := by
  rw [show (Int.tmod a 2 == 0) = decide (Int.tmod a 2 = 0) by rfl]
  congr 1
  apply propext
  rw [Int.tmod_eq_emod]
  split <;> omega

theorem tmod2n (a : Int) : (Int.tmod a 2 != 0) = decide (a % 2 ≠ 0) := by
  rw [bne, tmod2]
  by_cases h : a % 2 = 0 <;> simp [h]

theorem tdiv2 {a : Int} (h : a % 2 = 0) : Int.tdiv a 2 = a / 2 := by
  rw [Int.tdiv_eq_ediv]
  split <;> omega

theorem and_nat (a : Int) (m : Nat) (hm : m < 18446744073709551616) : (BitVec.toNat ((BitVec.ofInt 64 a) &&& (BitVec.ofInt 64 (m : Int)))) = (a % 18446744073709551616).toNat &&& m := by
  rw [BitVec.toNat_and]
  congr 1
  rw [BitVec.toNat_ofInt]
  omega

theorem and1 (a : Int) : IntKind.wrap IntKind.i64 (((BitVec.toNat ((BitVec.ofInt 64 a) &&& (BitVec.ofInt 64 (1 : Int)))) : Nat) : Int) = a % 2 := by
  have := and_nat a 1 (by omega)
  rw [show ((1 : Nat) : Int) = 1 from rfl] at this
  rw [this, Nat.and_one_is_mod, wrap_id (by omega) (by omega)]
  omega

/-! what is valid -/
def okN (x : Nm) : Bool := (decide (-131072 ≤ x.1) && decide (x.1 ≤ 131072)) && ((decide (-131072 ≤ x.2.1) && decide (x.2.1 ≤ 131072)) && ((decide (0 ≤ x.2.2) && decide (x.2.2 ≤ 10)) && (decide (x.2.2 = 0) || (decide (x.1 % 2 ≠ 0) || decide (x.2.1 % 2 ≠ 0)))))

theorem in_spec (x a b : Int) : g_spec_l00In x a b = some (decide (a ≤ x) && decide (x ≤ b)) := by
  unfold g_spec_l00In t_spec_l00In
  rw [show decide (x ≥ a) = decide (a ≤ x) from rfl]
  cases decide (a ≤ x) <;> simp
theorem in_impl (x a b : Int) : g_impl_within x a b = some (decide (a ≤ x) && decide (x ≤ b)) := by
  unfold g_impl_within t_impl_within
  rw [show decide (x ≥ a) = decide (a ≤ x) from rfl]
  cases decide (a ≤ x) <;> simp

theorem spec_okN (x : Nm) : g_spec_l01Ok x = some (okN x) := by
  unfold g_spec_l01Ok t_spec_l01Ok okN
  simp only [in_spec, Option.bind_some, tmod2n]
  rw [show (x.2.2 == 0) = decide (x.2.2 = 0) from rfl]
  cases (decide (-131072 ≤ x.1) && decide (x.1 ≤ 131072)) <;> cases (decide (-131072 ≤ x.2.1) && decide (x.2.1 ≤ 131072)) <;> cases (decide (0 ≤ x.2.2) && decide (x.2.2 ≤ 10)) <;> cases decide (x.2.2 = 0) <;> cases decide (x.1 % 2 ≠ 0) <;> simp

theorem odd_one (a : Int) : (a % 2 == 1) = decide (a % 2 ≠ 0) := by
  rw [show (a % 2 == 1) = decide (a % 2 = 1) from rfl]
  congr 1
  apply propext
  omega

theorem impl_okN (x : Nm) : g_impl_ValidNum x = some (okN x) := by
  unfold g_impl_ValidNum t_impl_ValidNum okN
  simp only [in_impl, Option.bind_some, and1, odd_one]
  rw [show (x.2.2 == 0) = decide (x.2.2 = 0) from rfl]
  cases (decide (-131072 ≤ x.1) && decide (x.1 ≤ 131072)) <;> cases (decide (-131072 ≤ x.2.1) && decide (x.2.1 ≤ 131072)) <;> cases (decide (0 ≤ x.2.2) && decide (x.2.2 ≤ 10)) <;> cases decide (x.2.2 = 0) <;> cases decide (x.1 % 2 ≠ 0) <;> simp

abbrev Pt := Nm × Nm
abbrev Ln := Int × Nm

def okL (l : Ln) : Bool := (decide (0 ≤ l.1) && decide (l.1 ≤ 7)) && okN l.2
def okP (p : Pt) : Bool := okN p.1 && okN p.2

theorem spec_okL (l : Ln) : g_spec_l02Line l = some (okL l) := by
  unfold g_spec_l02Line t_spec_l02Line okL
  simp only [in_spec, Option.bind_some, spec_okN]
  cases (decide (0 ≤ l.1) && decide (l.1 ≤ 7)) <;> simp
theorem impl_okL (l : Ln) : g_impl_ValidLine l = some (okL l) := by
  unfold g_impl_ValidLine t_impl_ValidLine okL
  simp only [in_impl, Option.bind_some, impl_okN]
  cases (decide (0 ≤ l.1) && decide (l.1 ≤ 7)) <;> simp

theorem spec_okP (p : Pt) : g_spec_l02Point p = some (okP p) := by
  unfold g_spec_l02Point t_spec_l02Point okP
  simp only [Option.bind_some, spec_okN]
  cases okN p.1 <;> simp
theorem impl_okP (p : Pt) : g_impl_ValidPoint p = some (okP p) := by
  unfold g_impl_ValidPoint t_impl_ValidPoint okP
  simp only [Option.bind_some, impl_okN]
  cases okN p.1 <;> simp

theorem toNum_id (x : Nm) : g_laws_toNum x = some x := rfl
theorem toLine_id (l : Ln) : g_laws_toLine l = some l := by
  rw [g_laws_toLine, t_laws_toLine, toNum_id]; rfl

theorem eqNum_self (x : Nm) : g_laws_eqNum x x = some true := by
  rw [g_laws_eqNum, t_laws_eqNum]
  simp
theorem eqLine_self (l : Ln) : g_laws_eqLine l l = some true := by
  rw [g_laws_eqLine, t_laws_eqLine, eqNum_self]
  simp

theorem toPoint_id (p : Pt) : g_laws_toPoint p = some p := by
  rw [g_laws_toPoint, t_laws_toPoint, toNum_id, toNum_id]; rfl

theorem hwN (s : ByteArray) : g_impl_within (((ByteArray.size s) : Nat) : Int) 1 12 = some (decide (((s.size : Nat) : Int) ≥ 1) && decide (((s.size : Nat) : Int) ≤ 12)) := by
  unfold g_impl_within t_impl_within
  cases decide (((s.size : Nat) : Int) ≥ 1) <;> rfl
/-! names -/
def isLet (c : Int) : Bool := (decide (65 ≤ c) && decide (c ≤ 90)) || (decide (97 ≤ c) && decide (c ≤ 122))
def isDig (c : Int) : Bool := decide (48 ≤ c) && decide (c ≤ 57)
def isWord (b : UInt8) : Bool := isLet (b.toNat : Nat) || (isDig (b.toNat : Nat) || decide (b.toNat = 95))
def headLet : List UInt8 → Bool
  | [] => false
  | b :: _ => isLet (b.toNat : Nat)
/-- Is it a name? -/
def nameB (s : ByteArray) : Bool := (decide (1 ≤ s.size) && decide (s.size ≤ 12)) && (s.data.toList.all isWord && headLet s.data.toList)

theorem letter_ok (c : Int) : g_spec_l01Letter c = some (isLet c) := by
  rw [g_spec_l01Letter, t_spec_l01Letter]
  unfold isLet
  rw [show decide (c ≥ 65) = decide (65 ≤ c) from rfl, show decide (c ≥ 97) = decide (97 ≤ c) from rfl]
  cases decide (65 ≤ c) <;> cases decide (c ≤ 90) <;> cases decide (97 ≤ c) <;> rfl
theorem digit_ok (c : Int) : g_spec_l01Digit c = some (isDig c) := by
  rw [g_spec_l01Digit, t_spec_l01Digit]
  unfold isDig
  rw [show decide (c ≥ 48) = decide (48 ≤ c) from rfl]
  cases decide (48 ≤ c) <;> rfl

theorem size_list (s : ByteArray) : s.size = s.data.toList.length := by
  show s.data.size = _
  exact (Array.length_toList).symm
theorem toList_data (s : ByteArray) : s.toList = s.data.toList := Lib.toList_data s
theorem ixB (s : ByteArray) {p r : List UInt8} {x : UInt8} (h : s.data.toList = p ++ x :: r) : idxB s ((p.length : Nat) : Int) = some x := by
  have hs : p.length < s.size := by rw [size_list, h]; simp
  have e : idxB s ((p.length : Nat) : Int) = s.data[p.length]? := by
    rw [idxB, if_pos (by omega), Int.toNat_natCast]; rfl
  rw [e, ← Array.getElem?_toList, h, List.getElem?_append_right (Nat.le_refl _), Nat.sub_self]; rfl
theorem ltB (s : ByteArray) {p r : List UInt8} {x : UInt8} (h : s.data.toList = p ++ x :: r) : decide (((p.length : Nat) : Int) < ((s.size : Nat) : Int)) = true := by
  rw [size_list, h]; refine dec_t ?_; simp only [List.length_append, List.length_cons]; omega
theorem endB (s : ByteArray) {p : List UInt8} (h : s.data.toList = p ++ []) : decide (((p.length : Nat) : Int) < ((s.size : Nat) : Int)) = false := by
  rw [size_list, h]; refine dec_f ?_; simp

theorem beq95 (b : UInt8) : (((b.toNat : Nat) : Int) != 95) = !decide (b.toNat = 95) := by
  rw [bne_int]
  congr 1
  by_cases h : b.toNat = 95
  · rw [dec_t h, dec_t (by omega)]
  · rw [dec_f h, dec_f (by omega)]

theorem name_loop (s : ByteArray) (hs : s.size ≤ 12) : ∀ (r p : List UInt8), s.data.toList = p ++ r →
    w_spec_IsName_5 (m_spec_IsName_5 s ((p.length : Nat) : Int)) = some (cond (r.all isWord) (.inr (.inl d_spec_IsName_5_1)) (.inl (d_spec_IsName_5_0 false)))
  | [], p, h => by
    rw [wq_spec_IsName_5, u_spec_IsName_5, endB s h, cond_false]; rfl
  | x :: r, p, h => by
    have hp : p.length < 12 := by
      have := size_list s
      rw [h] at this
      simp only [List.length_append, List.length_cons] at this
      omega
    rw [wq_spec_IsName_5, u_spec_IsName_5, ltB s h, cond_true, ixB s h]
    have IH := name_loop s hs r (p ++ [x]) (by rw [h]; simp)
    rw [List.length_append, List.length_singleton, show ((p.length + 1 : Nat) : Int) = (p.length : Int) + 1 by omega] at IH
    simp only [Option.bind_some, letter_ok, digit_ok, beq95, List.all_cons]
    rw [wrap_id (n := (p.length : Int) + 1) (by omega) (by omega)]
    unfold isWord at IH ⊢
    cases isLet (x.toNat : Nat)
    · cases isDig (x.toNat : Nat)
      · cases decide (x.toNat = 95)
        · rfl
        · exact IH
      · exact IH
    · exact IH

theorem emp_list (s : ByteArray) : ((ByteArray.toList s) == (ByteArray.toList (ByteArray.mk (Array.mk [])))) = decide (s.size = 0) := by
  rw [toList_data, toList_data, size_list]
  cases h : s.data.toList with
  | nil => rfl
  | cons x r => rfl

theorem spec_name (s : ByteArray) : g_spec_IsName s = some (nameB s) := by
  rw [g_spec_IsName, t_spec_IsName, emp_list]
  unfold nameB
  by_cases h0 : s.size = 0
  · rw [dec_t h0, dec_f (show ¬ 1 ≤ s.size by omega)]; rfl
  · rw [dec_f h0, cond_false, dec_t (show 1 ≤ s.size by omega), Bool.true_and]
    by_cases h1 : s.size ≤ 12
    · rw [dec_f (show ¬ ((s.size : Nat) : Int) > 12 by omega), cond_false, dec_t h1, Bool.true_and]
      cases hl : s.data.toList with
      | nil => rw [size_list, hl] at h0; simp at h0
      | cons b r =>
        have hi : idxB s (0 : Int) = some b := ixB s (p := []) (r := r) hl
        have hw := name_loop s h1 (b :: r) [] hl
        have hw' : w_spec_IsName_5 (m_spec_IsName_5 s 0) = _ := hw
        rw [hi, Option.bind_some, letter_ok, Option.bind_some, hw']
        show cond (!isLet (b.toNat : Nat)) _ _ = some (_ && isLet (b.toNat : Nat))
        cases isLet (b.toNat : Nat)
        · simp
        · cases (b :: r).all isWord <;> rfl
    · rw [dec_t (show ((s.size : Nat) : Int) > 12 by omega), dec_f h1]; rfl

theorem all_reverse {α : Type} (l : List α) (f : α → Bool) : l.reverse.all f = l.all f := by
  simp [List.all_reverse]

theorem drop_nil {α : Type} (f : α → Bool) : ∀ l : List α, (l.dropWhile f).isEmpty = l.all f
  | [] => rfl
  | x :: r => by
    rw [List.dropWhile_cons, List.all_cons]
    cases hx : f x
    · rfl
    · simpa using drop_nil f r

theorem drop_all {α : Type} (f : α → Bool) : ∀ l : List α, (l.dropWhile f).all f = l.all f
  | [] => rfl
  | x :: r => by
    rw [List.dropWhile_cons, List.all_cons]
    cases hx : f x
    · simp [hx]
    · simpa using drop_all f r

theorem trim_nil (l cs : List UInt8) : (Lib.trimS l cs).isEmpty = l.all (cs.contains ·) := by
  unfold Lib.trimS Lib.trimLeftS Lib.trimRightS
  rw [drop_nil, all_reverse, drop_all, all_reverse]

theorem cut_word : ∀ b : UInt8, List.contains ([97, 98, 99, 100, 101, 102, 103, 104, 105, 106, 107, 108, 109, 110, 111, 112, 113, 114, 115, 116, 117, 118, 119, 120, 121, 122, 65, 66, 67, 68, 69, 70, 71, 72, 73, 74, 75, 76, 77, 78, 79, 80, 81, 82, 83, 84, 85, 86, 87, 88, 89, 90, 48, 49, 50, 51, 52, 53, 54, 55, 56, 57, 95] : List UInt8) b = isWord b := by
  intro b
  have h : ∀ n : Fin 256, List.contains ([97, 98, 99, 100, 101, 102, 103, 104, 105, 106, 107, 108, 109, 110, 111, 112, 113, 114, 115, 116, 117, 118, 119, 120, 121, 122, 65, 66, 67, 68, 69, 70, 71, 72, 73, 74, 75, 76, 77, 78, 79, 80, 81, 82, 83, 84, 85, 86, 87, 88, 89, 90, 48, 49, 50, 51, 52, 53, 54, 55, 56, 57, 95] : List UInt8) (UInt8.ofNat n.val) = isWord (UInt8.ofNat n.val) := by decide +kernel
  have := h ⟨b.toNat, b.toNat_lt⟩
  simpa using this

theorem at_let : ∀ b : UInt8, decide (Lib.indexByte ([97, 98, 99, 100, 101, 102, 103, 104, 105, 106, 107, 108, 109, 110, 111, 112, 113, 114, 115, 116, 117, 118, 119, 120, 121, 122, 65, 66, 67, 68, 69, 70, 71, 72, 73, 74, 75, 76, 77, 78, 79, 80, 81, 82, 83, 84, 85, 86, 87, 88, 89, 90] : List UInt8) b ≥ 0) = isLet (b.toNat : Nat) := by
  intro b
  have h : ∀ n : Fin 256, decide (Lib.indexByte ([97, 98, 99, 100, 101, 102, 103, 104, 105, 106, 107, 108, 109, 110, 111, 112, 113, 114, 115, 116, 117, 118, 119, 120, 121, 122, 65, 66, 67, 68, 69, 70, 71, 72, 73, 74, 75, 76, 77, 78, 79, 80, 81, 82, 83, 84, 85, 86, 87, 88, 89, 90] : List UInt8) (UInt8.ofNat n.val) ≥ 0) = isLet ((UInt8.ofNat n.val).toNat : Nat) := by decide +kernel
  have := h ⟨b.toNat, b.toNat_lt⟩
  simpa using this

theorem impl_name (s : ByteArray) (hs : s.size ≤ 9223372036854775807) : g_impl_IsName s = some (nameB s) := by
  rw [g_impl_IsName, t_impl_IsName, hwN, Option.bind_some]
  unfold nameB
  have e1 : decide (((s.size : Nat) : Int) ≥ 1) = decide (1 ≤ s.size) := by
    by_cases h : 1 ≤ s.size
    · rw [dec_t h, dec_t (by omega)]
    · rw [dec_f h, dec_f (by omega)]
  have e2 : decide (((s.size : Nat) : Int) ≤ 12) = decide (s.size ≤ 12) := by
    by_cases h : s.size ≤ 12
    · rw [dec_t h, dec_t (by omega)]
    · rw [dec_f h, dec_f (by omega)]
  rw [e1, e2]
  cases hc : (decide (1 ≤ s.size) && decide (s.size ≤ 12))
  · rfl
  · simp only [Bool.and_eq_true, decide_eq_true_eq] at hc
    rw [cond_true, g_strings_Trim, if_pos ⟨hs, by decide, by decide⟩, Option.bind_some, toList_data, toList_data, Bool.true_and]
    have e3 : ((Lib.trimS s.data.toList (ByteArray.mk (Array.mk [97, 98, 99, 100, 101, 102, 103, 104, 105, 106, 107, 108, 109, 110, 111, 112, 113, 114, 115, 116, 117, 118, 119, 120, 121, 122, 65, 66, 67, 68, 69, 70, 71, 72, 73, 74, 75, 76, 77, 78, 79, 80, 81, 82, 83, 84, 85, 86, 87, 88, 89, 90, 48, 49, 50, 51, 52, 53, 54, 55, 56, 57, 95])).data.toList) == []) = s.data.toList.all isWord := by
      have h1 := trim_nil s.data.toList (ByteArray.mk (Array.mk [97, 98, 99, 100, 101, 102, 103, 104, 105, 106, 107, 108, 109, 110, 111, 112, 113, 114, 115, 116, 117, 118, 119, 120, 121, 122, 65, 66, 67, 68, 69, 70, 71, 72, 73, 74, 75, 76, 77, 78, 79, 80, 81, 82, 83, 84, 85, 86, 87, 88, 89, 90, 48, 49, 50, 51, 52, 53, 54, 55, 56, 57, 95])).data.toList
      have h2 : ∀ l : List UInt8, (l == []) = l.isEmpty := fun l => by cases l <;> rfl
      rw [h2, h1]
      congr 1
      funext b
      exact cut_word b
    have e3' : ((ByteArray.mk (Lib.trimS s.data.toList (ByteArray.mk (Array.mk [97, 98, 99, 100, 101, 102, 103, 104, 105, 106, 107, 108, 109, 110, 111, 112, 113, 114, 115, 116, 117, 118, 119, 120, 121, 122, 65, 66, 67, 68, 69, 70, 71, 72, 73, 74, 75, 76, 77, 78, 79, 80, 81, 82, 83, 84, 85, 86, 87, 88, 89, 90, 48, 49, 50, 51, 52, 53, 54, 55, 56, 57, 95])).data.toList).toArray).data.toList == (ByteArray.mk (Array.mk [])).data.toList) = s.data.toList.all isWord := e3
    rw [e3']
    cases hw : s.data.toList.all isWord
    · rfl
    · rw [cond_true, Bool.true_and]
      cases hl : s.data.toList with
      | nil => rw [size_list, hl] at hc; simp at hc
      | cons b r =>
        have hi : idxB s (0 : Int) = some b := ixB s (p := []) (r := r) hl
        rw [hi, Option.bind_some, g_strings_IndexByte, Option.bind_some]
        have e4 : (Int.toNat ((b.toNat : Nat) : Int)).toUInt8 = b := by
          rw [Int.toNat_natCast]
          exact UInt8.ofNat_toNat
        rw [e4]
        exact congrArg some (at_let b)
end Go.Proofs.YtjkljnflaifbhaaDoor
