/- The plain law on SameConstruction. No conditions. -/
import Derived.Test.YtnpejkbnepncfaaSC2
import Derived.Test.YtnpejkbnepncfaaPK
namespace Go.Proofs.Ytnpejkbnepncfaa
open Go.Vai

abbrev Con := ByteArray × (Int × ((List ByteArray) × (Int × (((Int × (Int × Int)) × (Int × (Int × Int))) × (Int × (Int × (Int × Int)))))))

/-! strings -/
def seq (a b : ByteArray) : Bool := ByteArray.toList a == ByteArray.toList b
theorem seq_self (a : ByteArray) : seq a a = true := by unfold seq; simp

def eqL : List ByteArray → List ByteArray → Bool
  | [], [] => true
  | x :: r, y :: s => cond (seq x y) (eqL r s) false
  | _, _ => false

theorem eqL_self : ∀ l, eqL l l = true
  | [] => rfl
  | x :: r => by rw [eqL, seq_self, cond_true]; exact eqL_self r

theorem eqL_len : ∀ {a b}, eqL a b = true → a.length = b.length
  | [], [], _ => rfl
  | x :: r, y :: s, h => by
    rw [eqL] at h
    cases hs : seq x y
    · rw [hs] at h; cases h
    · rw [hs] at h; simp [eqL_len h]
  | [], _ :: _, h => by cases h
  | _ :: _, [], h => by cases h

theorem to_StringS_loop (l : List ByteArray) (hl : l.length ≤ 4611686018427387904) : ∀ (r p q s : List ByteArray), l = p ++ r → q.length = p.length → s.length = r.length →
    w_laws_toStringS_4 (m_laws_toStringS_4 l (q ++ s) ((p.length : Nat) : Int)) = some (.inl (d_laws_toStringS_4_0 (q ++ r)))
  | [], p, q, s, h, hq, hs => by
    rw [wq_laws_toStringS_4, u_laws_toStringS_4, lt_end h, cond_false]
    rw [List.length_eq_zero_iff.1 hs]; rfl
  | x :: r, p, q, [], h, hq, hs => by cases hs
  | x :: r, p, q, y :: s, h, hq, hs => by
    rw [wq_laws_toStringS_4, u_laws_toStringS_4, lt_in h, cond_true, ix h, ← hq, ix (rfl : q ++ y :: s = q ++ y :: s)]
    simp only [Option.bind_some]
    rw [set_mid rfl, hq, wr h hl]
    have := to_StringS_loop l hl r (p ++ [x]) (q ++ [x]) s (nxt h) (by simp [hq]) (by simpa using hs)
    simpa using this

theorem to_StringS (l : List ByteArray) (hl : l.length ≤ 1048576) : g_laws_toStringS l = some l := by
  have h := to_StringS_loop l (by omega) l [] [] (List.replicate l.length (ByteArray.mk (Array.mk []))) rfl rfl (by simp)
  rw [g_laws_toStringS, t_laws_toStringS, dec_t (by omega), dec_t (by omega), dec_t (by omega)]
  simp only [cond_true]
  rw [Int.toNat_natCast]
  have h' : w_laws_toStringS_4 (m_laws_toStringS_4 l (List.replicate l.length (ByteArray.mk (Array.mk []))) 0) = _ := h
  rw [h']; rfl

theorem spec_loop (n1 n2 : ByteArray) (a b : List ByteArray) (i1 i2 j1 j2 j3 j4 j5 j6 j7 j8 j9 j10 k1 k2 l1 l2 l3 l4 l5 l6 l7 l8 l9 l10 : Int) (hl : a.length ≤ 4611686018427387904) : ∀ (r p q s : List ByteArray), a = p ++ r → b = q ++ s → q.length = p.length → s.length = r.length →
    w_spec_SameConstruction_5 (m_spec_SameConstruction_5 ((p.length : Nat) : Int) n1 i1 a i2 j1 j2 j3 j4 j5 j6 j7 j8 j9 j10 n2 k1 b k2 l1 l2 l3 l4 l5 l6 l7 l8 l9 l10) = some (cond (eqL r s) (.inr (.inl d_spec_SameConstruction_5_1)) (.inl (d_spec_SameConstruction_5_0 false)))
  | [], p, q, s, h, h', hq, hs => by
    rw [wq_spec_SameConstruction_5, u_spec_SameConstruction_5, lt_end h, cond_false]
    rw [List.length_eq_zero_iff.1 hs]; rfl
  | x :: r, p, q, [], h, h', hq, hs => by cases hs
  | x :: r, p, q, y :: s, h, h', hq, hs => by
    rw [wq_spec_SameConstruction_5, u_spec_SameConstruction_5, lt_in h, cond_true, ix h, ← hq, ix h']
    simp only [Option.bind_some]
    rw [show (ByteArray.toList x == ByteArray.toList y) = seq x y from rfl, eqL]
    cases hxy : seq x y
    · rfl
    · rw [Bool.not_true, cond_false, hq, wr h hl]
      exact spec_loop n1 n2 a b i1 i2 j1 j2 j3 j4 j5 j6 j7 j8 j9 j10 k1 k2 l1 l2 l3 l4 l5 l6 l7 l8 l9 l10 hl r (p ++ [x]) (q ++ [y]) s (nxt h) (nxt h') (by simp [hq]) (by simpa using hs)

theorem impl_loop (a b : List ByteArray) (hl : a.length ≤ 4611686018427387904) : ∀ (r p q s : List ByteArray), a = p ++ r → b = q ++ s → q.length = p.length → s.length = r.length →
    w_slices_Equal_Sstring_string_5 (m_slices_Equal_Sstring_string_5 a b ((a.length : Nat) : Int) ((p.length : Nat) : Int)) = some (cond (eqL r s) (.inr (.inl d_slices_Equal_Sstring_string_5_1)) (.inl (d_slices_Equal_Sstring_string_5_0 false)))
  | [], p, q, s, h, h', hq, hs => by
    rw [wq_slices_Equal_Sstring_string_5, u_slices_Equal_Sstring_string_5, lt_end h, cond_false]
    rw [List.length_eq_zero_iff.1 hs]; rfl
  | x :: r, p, q, [], h, h', hq, hs => by cases hs
  | x :: r, p, q, y :: s, h, h', hq, hs => by
    rw [wq_slices_Equal_Sstring_string_5, u_slices_Equal_Sstring_string_5, lt_in h, cond_true, ix h, ← hq, ix h']
    simp only [Option.bind_some]
    rw [show (ByteArray.toList x == ByteArray.toList y) = seq x y from rfl, eqL]
    cases hxy : seq x y
    · rfl
    · rw [Bool.not_true, cond_false, hq, wr h hl]
      exact impl_loop a b hl r (p ++ [x]) (q ++ [y]) s (nxt h) (nxt h') (by simp [hq]) (by simpa using hs)

theorem laws_loop (a b : List ByteArray) (hl : a.length ≤ 4611686018427387904) : ∀ (r p q s : List ByteArray), a = p ++ r → b = q ++ s → q.length = p.length → s.length = r.length →
    w_laws_eqStringS_5 (m_laws_eqStringS_5 a b ((p.length : Nat) : Int)) = some (cond (eqL r s) (.inr (.inl d_laws_eqStringS_5_1)) (.inl (d_laws_eqStringS_5_0 false)))
  | [], p, q, s, h, h', hq, hs => by
    rw [wq_laws_eqStringS_5, u_laws_eqStringS_5, lt_end h, cond_false]
    rw [List.length_eq_zero_iff.1 hs]; rfl
  | x :: r, p, q, [], h, h', hq, hs => by cases hs
  | x :: r, p, q, y :: s, h, h', hq, hs => by
    rw [wq_laws_eqStringS_5, u_laws_eqStringS_5, lt_in h, cond_true, ix h, ← hq, ix h']
    simp only [Option.bind_some]
    rw [show (ByteArray.toList x == ByteArray.toList y) = seq x y from rfl, eqL]
    cases hxy : seq x y
    · rfl
    · rw [Bool.not_true, cond_false, hq, wr h hl]
      exact laws_loop a b hl r (p ++ [x]) (q ++ [y]) s (nxt h) (nxt h') (by simp [hq]) (by simpa using hs)

theorem len_ne {a b : List ByteArray} (h : a.length ≠ b.length) : eqL a b = false := by
  cases he : eqL a b
  · rfl
  · exact absurd (eqL_len he) h

theorem slicesEq (a b : List ByteArray) (hl : a.length ≤ 4611686018427387904) : g_slices_Equal_Sstring_string a b = some (eqL a b) := by
  rw [g_slices_Equal_Sstring_string, t_slices_Equal_Sstring_string]
  by_cases h : a.length = b.length
  · have h' : w_slices_Equal_Sstring_string_5 (m_slices_Equal_Sstring_string_5 a b a.length 0) = _ := impl_loop a b hl a [] [] b rfl rfl rfl h.symm
    rw [show (((a.length : Nat) : Int) != ((b.length : Nat) : Int)) = false by simp [h], cond_false, h']
    cases eqL a b <;> rfl
  · rw [show (((a.length : Nat) : Int) != ((b.length : Nat) : Int)) = true by simp; omega, cond_true, len_ne h]

theorem eqStringS (a b : List ByteArray) (hl : a.length ≤ 4611686018427387904) : g_laws_eqStringS a b = some (eqL a b) := by
  rw [g_laws_eqStringS, t_laws_eqStringS]
  by_cases h : a.length = b.length
  · have h' : w_laws_eqStringS_5 (m_laws_eqStringS_5 a b 0) = _ := laws_loop a b hl a [] [] b rfl rfl rfl h.symm
    rw [show (((a.length : Nat) : Int) != ((b.length : Nat) : Int)) = false by simp [h], cond_false, h']
    cases eqL a b <;> rfl
  · rw [show (((a.length : Nat) : Int) != ((b.length : Nat) : Int)) = true by simp; omega, cond_true, len_ne h]

/-! the comparison -/
def ptq (a b : (Int × (Int × Int)) × (Int × (Int × Int))) : Bool :=
  ((a.1.1 == b.1.1) && ((a.1.2.1 == b.1.2.1) && ((a.1.2.2 == b.1.2.2) && true))) && (((a.2.1 == b.2.1) && ((a.2.2.1 == b.2.2.1) && ((a.2.2.2 == b.2.2.2) && true))) && true)
def lnq (a b : Int × (Int × (Int × Int))) : Bool := (a.1 == b.1) && (((a.2.1 == b.2.1) && ((a.2.2.1 == b.2.2.1) && ((a.2.2.2 == b.2.2.2) && true))) && true)
def same (a b : Con) : Bool := seq a.1 b.1 && ((a.2.1 == b.2.1) && (eqL a.2.2.1 b.2.2.1 && ((a.2.2.2.1 == b.2.2.2.1) && (ptq a.2.2.2.2.1 b.2.2.2.2.1 && lnq a.2.2.2.2.2 b.2.2.2.2.2))))

theorem impl_same (a b : Con) (hl : a.2.2.1.length ≤ 4611686018427387904) : g_impl_SameConstruction a b = some (same a b) := by
  rw [g_impl_SameConstruction, t_impl_SameConstruction, slicesEq _ _ hl]
  unfold same
  show cond (seq a.1 b.1) (cond (a.2.1 == b.2.1) (Option.bind (some (eqL a.2.2.1 b.2.2.1)) fun y => cond y (cond (a.2.2.2.1 == b.2.2.2.1) (cond (ptq a.2.2.2.2.1 b.2.2.2.2.1) (some (lnq a.2.2.2.2.2 b.2.2.2.2.2)) (some false)) (some false)) (some false)) (some false)) (some false) = _
  cases seq a.1 b.1 <;> cases (a.2.1 == b.2.1) <;> cases eqL a.2.2.1 b.2.2.1 <;> cases (a.2.2.2.1 == b.2.2.2.1) <;> cases ptq a.2.2.2.2.1 b.2.2.2.2.1 <;> rfl

theorem spec_same (a b : Con) (hl : a.2.2.1.length ≤ 4611686018427387904) : g_spec_SameConstruction a b = some (same a b) := by
  rw [g_spec_SameConstruction, t_spec_SameConstruction]
  unfold same
  have hw : (cond (((a.2.2.1.length : Nat) : Int) != ((b.2.2.1.length : Nat) : Int)) (some false) (Option.bind (w_spec_SameConstruction_5 (m_spec_SameConstruction_5 (0 : Int) a.1 a.2.1 a.2.2.1 a.2.2.2.1 a.2.2.2.2.1.1.1 a.2.2.2.2.1.1.2.1 a.2.2.2.2.1.1.2.2 a.2.2.2.2.1.2.1 a.2.2.2.2.1.2.2.1 a.2.2.2.2.1.2.2.2 a.2.2.2.2.2.1 a.2.2.2.2.2.2.1 a.2.2.2.2.2.2.2.1 a.2.2.2.2.2.2.2.2 b.1 b.2.1 b.2.2.1 b.2.2.2.1 b.2.2.2.2.1.1.1 b.2.2.2.2.1.1.2.1 b.2.2.2.2.1.1.2.2 b.2.2.2.2.1.2.1 b.2.2.2.2.1.2.2.1 b.2.2.2.2.1.2.2.2 b.2.2.2.2.2.1 b.2.2.2.2.2.2.1 b.2.2.2.2.2.2.2.1 b.2.2.2.2.2.2.2.2)) (exC x_spec_SameConstruction_5 (fun e => some (e.1.1.1 : Bool), fun _ => some true, ())))) = some (eqL a.2.2.1 b.2.2.1) := by
    by_cases h : a.2.2.1.length = b.2.2.1.length
    · have h' := spec_loop a.1 b.1 a.2.2.1 b.2.2.1 a.2.1 a.2.2.2.1 a.2.2.2.2.1.1.1 a.2.2.2.2.1.1.2.1 a.2.2.2.2.1.1.2.2 a.2.2.2.2.1.2.1 a.2.2.2.2.1.2.2.1 a.2.2.2.2.1.2.2.2 a.2.2.2.2.2.1 a.2.2.2.2.2.2.1 a.2.2.2.2.2.2.2.1 a.2.2.2.2.2.2.2.2 b.2.1 b.2.2.2.1 b.2.2.2.2.1.1.1 b.2.2.2.2.1.1.2.1 b.2.2.2.2.1.1.2.2 b.2.2.2.2.1.2.1 b.2.2.2.2.1.2.2.1 b.2.2.2.2.1.2.2.2 b.2.2.2.2.2.1 b.2.2.2.2.2.2.1 b.2.2.2.2.2.2.2.1 b.2.2.2.2.2.2.2.2 hl a.2.2.1 [] [] b.2.2.1 rfl rfl rfl h.symm
      rw [show (((a.2.2.1.length : Nat) : Int) != ((b.2.2.1.length : Nat) : Int)) = false by simp [h], cond_false]
      refine (congrArg (fun o => Option.bind o _) h').trans ?_
      cases eqL a.2.2.1 b.2.2.1 <;> rfl
    · rw [show (((a.2.2.1.length : Nat) : Int) != ((b.2.2.1.length : Nat) : Int)) = true by simp; omega, cond_true, len_ne h]
  show cond (!seq a.1 b.1) (some false) (cond (!(a.2.1 == b.2.1)) (some false) (cond (!(a.2.2.2.1 == b.2.2.2.1)) (some false) (cond (!ptq a.2.2.2.2.1 b.2.2.2.2.1) (some false) (cond (!lnq a.2.2.2.2.2 b.2.2.2.2.2) (some false) (cond (((a.2.2.1.length : Nat) : Int) != ((b.2.2.1.length : Nat) : Int)) (some false) (Option.bind (w_spec_SameConstruction_5 (m_spec_SameConstruction_5 (0 : Int) a.1 a.2.1 a.2.2.1 a.2.2.2.1 a.2.2.2.2.1.1.1 a.2.2.2.2.1.1.2.1 a.2.2.2.2.1.1.2.2 a.2.2.2.2.1.2.1 a.2.2.2.2.1.2.2.1 a.2.2.2.2.1.2.2.2 a.2.2.2.2.2.1 a.2.2.2.2.2.2.1 a.2.2.2.2.2.2.2.1 a.2.2.2.2.2.2.2.2 b.1 b.2.1 b.2.2.1 b.2.2.2.1 b.2.2.2.2.1.1.1 b.2.2.2.2.1.1.2.1 b.2.2.2.2.1.1.2.2 b.2.2.2.2.1.2.1 b.2.2.2.2.1.2.2.1 b.2.2.2.2.1.2.2.2 b.2.2.2.2.2.1 b.2.2.2.2.2.2.1 b.2.2.2.2.2.2.2.1 b.2.2.2.2.2.2.2.2)) (exC x_spec_SameConstruction_5 (fun e => some (e.1.1.1 : Bool), fun _ => some true, ())))))))) = _
  rw [hw]
  cases seq a.1 b.1 <;> cases (a.2.1 == b.2.1) <;> cases eqL a.2.2.1 b.2.2.1 <;> cases (a.2.2.2.1 == b.2.2.2.1) <;> cases ptq a.2.2.2.2.1 b.2.2.2.2.1 <;> cases lnq a.2.2.2.2.2 b.2.2.2.2.2 <;> rfl

/-! sizes -/
theorem sz_loop (l : List ByteArray) (hl : l.length ≤ 4611686018427387904) (hs : ∀ x, x ∈ l → x.size ≤ 9223372036854775807) : ∀ (r p : List ByteArray) (x : Int), l = p ++ r → 0 ≤ x → x ≤ 1048576 →
    (∃ y, w_laws_szStringS_6 (m_laws_szStringS_6 l x ((p.length : Nat) : Int)) = some (.inl (d_laws_szStringS_6_0 y (-1)))) ∨ (∃ y, 0 ≤ y ∧ y ≤ x ∧ w_laws_szStringS_6 (m_laws_szStringS_6 l x ((p.length : Nat) : Int)) = some (.inr (.inl (d_laws_szStringS_6_1 y))))
  | [], p, x, h, h0, h1 => by
    rw [wq_laws_szStringS_6, u_laws_szStringS_6, lt_end h, cond_false]
    exact .inr ⟨x, h0, Int.le_refl _, rfl⟩
  | y :: r, p, x, h, h0, h1 => by
    have hy := hs y (by rw [h]; simp)
    rw [wq_laws_szStringS_6, u_laws_szStringS_6, lt_in h, cond_true, ix h]
    simp only [Option.bind_some]
    rw [wrap_id (n := x - (y.size : Int)) (by omega) (by omega)]
    by_cases hc : x - (y.size : Int) < 0
    · rw [dec_t hc, cond_true]
      exact .inl ⟨_, rfl⟩
    · rw [dec_f hc, cond_false, wr h hl]
      rcases sz_loop l hl hs r (p ++ [y]) (x - y.size) (nxt h) (by omega) (by omega) with ⟨z, hz⟩ | ⟨z, z0, z1, hz⟩
      · exact .inl ⟨z, hz⟩
      · exact .inr ⟨z, z0, by omega, hz⟩

theorem sz_strings (l : List ByteArray) (hl : l.length ≤ 9223372036854775807) (hs : ∀ x, x ∈ l → x.size ≤ 9223372036854775807) (x : Int) (h0 : 0 ≤ x) (h1 : x ≤ 1048576) :
    ∃ r, g_laws_szStringS l x = some r ∧ r ≤ 1048576 ∧ (0 ≤ r → l.length ≤ 1048576) := by
  rw [g_laws_szStringS, t_laws_szStringS, wrap_id (n := x - (l.length : Int)) (by omega) (by omega)]
  by_cases hc : x - (l.length : Int) < 0
  · rw [dec_t hc, cond_true]
    exact ⟨-1, rfl, by omega, by omega⟩
  · rw [dec_f hc, cond_false]
    rcases sz_loop l (by omega) hs l [] (x - l.length) rfl (by omega) (by omega) with ⟨z, hz⟩ | ⟨z, z0, z1, hz⟩
    · have hz : w_laws_szStringS_6 (m_laws_szStringS_6 l (x - l.length) 0) = _ := hz
      rw [hz]
      exact ⟨-1, rfl, by omega, by omega⟩
    · have hz : w_laws_szStringS_6 (m_laws_szStringS_6 l (x - l.length) 0) = _ := hz
      rw [hz]
      exact ⟨z, rfl, by omega, fun _ => by omega⟩

theorem sz_con (a : Con) (hn : a.1.size ≤ 9223372036854775807) (hl : a.2.2.1.length ≤ 9223372036854775807) (hs : ∀ x, x ∈ a.2.2.1 → x.size ≤ 9223372036854775807) (x : Int) (h0 : 0 ≤ x) (h1 : x ≤ 1048576) :
    ∃ r, g_laws_szConstruction a x = some r ∧ r ≤ 1048576 ∧ (0 ≤ r → a.2.2.1.length ≤ 1048576) := by
  rw [g_laws_szConstruction, t_laws_szConstruction, wrap_id (n := x - (a.1.size : Int)) (by omega) (by omega)]
  by_cases hc : x - (a.1.size : Int) < 0
  · rw [dec_t hc, cond_true]
    exact ⟨-1, rfl, by omega, by omega⟩
  · rw [dec_f hc, cond_false]
    obtain ⟨r, hr, r1, r2⟩ := sz_strings a.2.2.1 hl hs (x - a.1.size) (by omega) (by omega)
    rw [hr, Option.bind_some]
    by_cases hr0 : r < 0
    · rw [dec_t hr0, cond_true]
      exact ⟨-1, rfl, by omega, by omega⟩
    · rw [dec_f hr0, cond_false]
      exact ⟨r, rfl, r1, r2⟩

/-! the law -/
theorem eqNum_self (x : Int × (Int × Int)) : g_laws_eqNum x x = some true := by
  rw [g_laws_eqNum, t_laws_eqNum]
  simp
theorem eqCon_self (a : Con) (hl : a.2.2.1.length ≤ 4611686018427387904) : g_laws_eqConstruction a a = some true := by
  rw [g_laws_eqConstruction, t_laws_eqConstruction, eqStringS _ _ hl, eqL_self, g_laws_eqPoint, t_laws_eqPoint, g_laws_eqLine, t_laws_eqLine, eqNum_self, eqNum_self, eqNum_self]
  simp

theorem toCon (a : Con) (hl : a.2.2.1.length ≤ 1048576) : g_laws_toConstruction a = some a := by
  have hp : g_laws_toPoint a.2.2.2.2.1 = some a.2.2.2.2.1 := rfl
  have hq : g_laws_toLine a.2.2.2.2.2 = some a.2.2.2.2.2 := rfl
  rw [g_laws_toConstruction, t_laws_toConstruction, to_StringS _ hl, hp, hq]
  rfl

theorem law_SameConstruction (a b : Con) (ha : a.1.size ≤ 9223372036854775807 ∧ a.2.2.1.length ≤ 9223372036854775807 ∧ ∀ x, x ∈ a.2.2.1 → x.size ≤ 9223372036854775807) (hb : b.1.size ≤ 9223372036854775807 ∧ b.2.2.1.length ≤ 9223372036854775807 ∧ ∀ x, x ∈ b.2.2.1 → x.size ≤ 9223372036854775807) :
    g_laws_FnExactSameConstruction a b = some true := by
  rw [g_laws_FnExactSameConstruction, t_laws_FnExactSameConstruction]
  obtain ⟨r, hr, r1, r2⟩ := sz_con a ha.1 ha.2.1 ha.2.2 1048576 (by decide) (by decide)
  rw [hr, Option.bind_some]
  by_cases hr0 : r < 0
  · rw [dec_t hr0]; rfl
  · rw [dec_f hr0, cond_false]
    obtain ⟨s, hs, s1, s2⟩ := sz_con b hb.1 hb.2.1 hb.2.2 r (by omega) r1
    rw [hs, Option.bind_some]
    by_cases hs0 : s < 0
    · rw [dec_t hs0]; rfl
    · rw [dec_f hs0, cond_false]
      have la := r2 (by omega)
      have lb := s2 (by omega)
      simp only [toCon a la, toCon b lb, Option.bind_some, spec_same a b (by omega), impl_same a b (by omega), eqCon_self a (by omega), eqCon_self b (by omega)]
      simp

theorem law_SC_wf (a : Con) (ha : Ty.wf (.pair .str (.pair (.int .i64) (.pair (.slice .str) (.pair (.int .i64) (.pair (.pair (.pair (.int .i64) (.pair (.int .i64) (.int .i64))) (.pair (.int .i64) (.pair (.int .i64) (.int .i64)))) (.pair (.int .i64) (.pair (.int .i64) (.pair (.int .i64) (.int .i64))))))))) a) (b : Con) (hb : Ty.wf (.pair .str (.pair (.int .i64) (.pair (.slice .str) (.pair (.int .i64) (.pair (.pair (.pair (.int .i64) (.pair (.int .i64) (.int .i64))) (.pair (.int .i64) (.pair (.int .i64) (.int .i64)))) (.pair (.int .i64) (.pair (.int .i64) (.pair (.int .i64) (.int .i64))))))))) b) : g_laws_FnExactSameConstruction a b = some true :=
  law_SameConstruction a b ⟨ha.1, ha.2.2.1.1, ha.2.2.1.2⟩ ⟨hb.1, hb.2.2.1.1, hb.2.2.1.2⟩

end Go.Proofs.Ytnpejkbnepncfaa
