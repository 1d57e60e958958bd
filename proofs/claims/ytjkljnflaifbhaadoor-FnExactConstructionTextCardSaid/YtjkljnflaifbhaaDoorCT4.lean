/- Constructions; the law. No conditions. -/
import Derived.Test.YtjkljnflaifbhaaDoorCT3
namespace Go.Proofs.YtjkljnflaifbhaaDoor
open Go.Vai
abbrev Cn := ByteArray × (Int × (List ByteArray × (Int × (Pt × Ln))))
theorem eqPoint_self (p : Pt) : g_laws_eqPoint p p = some true := by
  rw [g_laws_eqPoint, t_laws_eqPoint, eqNum_self, Option.bind_some, Bool.not_true, cond_false, eqNum_self]; rfl


theorem laws_toStringS_loop (l : List ByteArray) (hl : l.length ≤ 4611686018427387904) : ∀ (r p q s : List ByteArray), l = p ++ r → q.length = p.length → s.length = r.length →
    w_laws_toStringS_4 (m_laws_toStringS_4 l (q ++ s) ((p.length : Nat) : Int)) = some (.inl (d_laws_toStringS_4_0 (q ++ r)))
  | [], p, q, s, h, hq, hs => by
    rw [wq_laws_toStringS_4, u_laws_toStringS_4, lt_end h, cond_false]
    rw [List.length_eq_zero_iff.1 hs]; rfl
  | x :: r, p, q, [], h, hq, hs => by cases hs
  | x :: r, p, q, y :: s, h, hq, hs => by
    rw [wq_laws_toStringS_4, u_laws_toStringS_4, lt_in h, cond_true, ix h, Option.bind_some]
    rw [← hq, ix (rfl : q ++ y :: s = q ++ y :: s), Option.bind_some, set_mid rfl, hq, wr h hl]
    have := laws_toStringS_loop l hl r (p ++ [x]) (q ++ [x]) s (nxt h) (by simp [hq]) (by simpa using hs)
    refine this.trans ?_
    rw [List.append_assoc]; rfl

theorem laws_toStringS_id (l : List ByteArray) (hl : l.length ≤ 1048576) : g_laws_toStringS l = some l := by
  have h := laws_toStringS_loop l (by omega) l [] [] (List.replicate l.length (ByteArray.mk (Array.mk []))) rfl rfl (by simp)
  rw [g_laws_toStringS, t_laws_toStringS, dec_t (by omega), dec_t (by omega), dec_t (by omega)]
  simp only [cond_true]
  rw [Int.toNat_natCast]
  have h' : w_laws_toStringS_4 (m_laws_toStringS_4 l (List.replicate l.length (ByteArray.mk (Array.mk []))) 0) = _ := h
  rw [h']; rfl


theorem laws_eqStringS_loop (l : List ByteArray) (hl : l.length ≤ 4611686018427387904) : ∀ (r p : List ByteArray), l = p ++ r → w_laws_eqStringS_5 (m_laws_eqStringS_5 l l ((p.length : Nat) : Int)) = some (.inr (.inl d_laws_eqStringS_5_1))
  | [], p, h => by
    rw [wq_laws_eqStringS_5, u_laws_eqStringS_5, lt_end h, cond_false]; rfl
  | x :: r, p, h => by
    rw [wq_laws_eqStringS_5, u_laws_eqStringS_5, lt_in h, cond_true, ix h, Option.bind_some, Option.bind_some]
    rw [beq_self_eq_true, Bool.not_true, cond_false, wr h (by omega)]
    exact laws_eqStringS_loop l hl r (p ++ [x]) (nxt h)
theorem laws_eqStringS_self (l : List ByteArray) (hl : l.length ≤ 4611686018427387904) : g_laws_eqStringS l l = some true := by
  have h' : w_laws_eqStringS_5 (m_laws_eqStringS_5 l l 0) = _ := laws_eqStringS_loop l hl l [] rfl
  rw [g_laws_eqStringS, t_laws_eqStringS, bne_self_eq_false, cond_false, h']; rfl


theorem toCon_id (c : Cn) (h : c.2.2.1.length ≤ 1048576) : g_laws_toConstruction c = some c := by
  rw [g_laws_toConstruction, t_laws_toConstruction, laws_toStringS_id _ h, Option.bind_some, toPoint_id, Option.bind_some, toLine_id]; rfl
theorem eqCon_self (c : Cn) (h : c.2.2.1.length ≤ 1048576) : g_laws_eqConstruction c c = some true := by
  rw [g_laws_eqConstruction, t_laws_eqConstruction, beq_self_eq_true, bne_self_eq_false, laws_eqStringS_self _ (by omega), bne_self_eq_false, eqPoint_self, eqLine_self]; rfl

/-! the size of the input -/
theorem szS_loop (l : List ByteArray) (hl : l.length ≤ 1048576) (hn : ∀ x ∈ l, x.size ≤ 9223372036854775807) : ∀ (r p : List ByteArray) (k : Int), l = p ++ r → 0 ≤ k → k ≤ 1048576 →
    (∃ a b, w_laws_szStringS_6 (m_laws_szStringS_6 l k ((p.length : Nat) : Int)) = some (.inl (d_laws_szStringS_6_0 a b)) ∧ b < 0) ∨ ∃ a, w_laws_szStringS_6 (m_laws_szStringS_6 l k ((p.length : Nat) : Int)) = some (.inr (.inl (d_laws_szStringS_6_1 a)))
  | [], p, k, h, h0, h1 => .inr ⟨k, by
    rw [wq_laws_szStringS_6, u_laws_szStringS_6, lt_end h, cond_false]; rfl⟩
  | x :: r, p, k, h, h0, h1 => by
    have hx := hn x (by rw [h]; simp)
    have hp := len_in h
    rw [wq_laws_szStringS_6, u_laws_szStringS_6, lt_in h, cond_true, ix h, Option.bind_some, wrap_id (n := k - x.size) (by omega) (by omega)]
    by_cases hk : k < x.size
    · rw [dec_t (by omega), cond_true]
      exact .inl ⟨_, _, rfl, by omega⟩
    · rw [dec_f (by omega), cond_false, wr h (by omega)]
      exact szS_loop l hl hn r (p ++ [x]) _ (nxt h) (by omega) (by omega)

theorem szS_ok (l : List ByteArray) (hl : l.length ≤ 9223372036854775807) (hn : ∀ x ∈ l, x.size ≤ 9223372036854775807) (k : Int) (h0 : 0 ≤ k) (h1 : k ≤ 1048576) : ∃ y, g_laws_szStringS l k = some y ∧ (y < 0 ∨ l.length ≤ 1048576) := by
  rw [g_laws_szStringS, t_laws_szStringS, wrap_id (n := k - (l.length : Int)) (by omega) (by omega)]
  by_cases h : k - (l.length : Int) < 0
  · rw [dec_t h]; exact ⟨-1, rfl, .inl (by omega)⟩
  · rw [dec_f h, cond_false]
    rcases szS_loop l (by omega) hn l [] (k - (l.length : Int)) rfl (by omega) (by omega) with ⟨a, b, hy, hb⟩ | ⟨a, hy⟩
    · have hy' : w_laws_szStringS_6 (m_laws_szStringS_6 l (k - (l.length : Int)) 0) = _ := hy
      rw [hy']; exact ⟨b, rfl, .inl hb⟩
    · have hy' : w_laws_szStringS_6 (m_laws_szStringS_6 l (k - (l.length : Int)) 0) = _ := hy
      rw [hy']; exact ⟨a, rfl, .inr (by omega)⟩

theorem szC_ok (c : Cn) (h1 : c.1.size ≤ 9223372036854775807) (h2 : c.2.2.1.length ≤ 9223372036854775807) (h3 : ∀ x ∈ c.2.2.1, x.size ≤ 9223372036854775807) : ∃ y, g_laws_szConstruction c 1048576 = some y ∧ (y < 0 ∨ c.2.2.1.length ≤ 1048576) := by
  rw [g_laws_szConstruction, t_laws_szConstruction, wrap_id (n := 1048576 - (c.1.size : Int)) (by omega) (by omega)]
  by_cases h : (1048576 : Int) - c.1.size < 0
  · rw [dec_t h]; exact ⟨-1, rfl, .inl (by omega)⟩
  · rw [dec_f h, cond_false]
    obtain ⟨y, hy, hc⟩ := szS_ok c.2.2.1 h2 h3 (1048576 - (c.1.size : Int)) (by omega) (by omega)
    rw [hy, Option.bind_some]
    by_cases hn : y < 0
    · rw [dec_t hn]; exact ⟨-1, rfl, .inl (by omega)⟩
    · rw [dec_f hn]; exact ⟨y, rfl, hc⟩

/-! names of the arguments -/
theorem arg_loop (k ch : Int) (nm : ByteArray) (p : Pt) (q : Ln) (l : List ByteArray) (hl : l.length ≤ 1048576) : ∀ (r t : List ByteArray), l = t ++ r →
    w_spec_l24Ok_7 (m_spec_l24Ok_7 ((t.length : Nat) : Int) nm k l ch p.1.1 p.1.2.1 p.1.2.2 p.2.1 p.2.2.1 p.2.2.2 q.1 q.2.1 q.2.2.1 q.2.2.2) =
      some (cond (r.all nameB) (.inr (.inl (d_spec_l24Ok_7_1 nm k l ch p.1.1 p.1.2.1 p.1.2.2 p.2.1 p.2.2.1 p.2.2.2 q.1 q.2.1 q.2.2.1 q.2.2.2))) (.inl (d_spec_l24Ok_7_0 false nm k l ch p.1.1 p.1.2.1 p.1.2.2 p.2.1 p.2.2.1 p.2.2.2 q.1 q.2.1 q.2.2.1 q.2.2.2)))
  | [], t, h => by
    rw [wq_spec_l24Ok_7, u_spec_l24Ok_7, lt_end h, cond_false]; rfl
  | x :: r, t, h => by
    rw [wq_spec_l24Ok_7, u_spec_l24Ok_7, lt_in h, cond_true, ix h, Option.bind_some, spec_name, Option.bind_some, List.all_cons]
    cases nameB x
    · rfl
    · rw [Bool.not_true, cond_false, wr h (by omega), Bool.true_and]
      exact arg_loop k ch nm p q l hl r (t ++ [x]) (nxt h)

theorem find_loop (l : List ByteArray) (hl : l.length ≤ 4611686018427387904) (hn : ∀ x ∈ l, x.size ≤ 9223372036854775807) : ∀ (r p : List ByteArray), l = p ++ r →
    w_slices_IndexFunc_Sstring_string__impl_ValidConstruction_1_3 (m_slices_IndexFunc_Sstring_string__impl_ValidConstruction_1_3 l ((l.length : Nat) : Int) ((p.length : Nat) : Int)) =
      some (match r.findIdx? (fun y => !nameB y) with | some j => .inl (d_slices_IndexFunc_Sstring_string__impl_ValidConstruction_1_3_0 (((p.length + j : Nat) : Int))) | none => .inr (.inl d_slices_IndexFunc_Sstring_string__impl_ValidConstruction_1_3_1))
  | [], p, h => by
    rw [wq_slices_IndexFunc_Sstring_string__impl_ValidConstruction_1_3, u_slices_IndexFunc_Sstring_string__impl_ValidConstruction_1_3, lt_end h, cond_false]; rfl
  | x :: r, p, h => by
    rw [wq_slices_IndexFunc_Sstring_string__impl_ValidConstruction_1_3, u_slices_IndexFunc_Sstring_string__impl_ValidConstruction_1_3, lt_in h, cond_true, ix h, Option.bind_some, g_impl_ValidConstruction_1, t_impl_ValidConstruction_1,
      impl_name x (hn x (by rw [h]; simp)), Option.bind_some, Option.bind_some, List.findIdx?_cons]
    cases hx : nameB x
    · rfl
    · rw [Bool.not_true, cond_false, wr h hl]
      refine (find_loop l hl hn r (p ++ [x]) (nxt h)).trans ?_
      simp only [Bool.false_eq_true, if_false]
      cases hf : r.findIdx? (fun y => !nameB y)
      · rfl
      · simp [Nat.add_comm, Nat.add_left_comm]

theorem bad_ok (l : List ByteArray) (hl : l.length ≤ 4611686018427387904) (hn : ∀ x ∈ l, x.size ≤ 9223372036854775807) : g_slices_ContainsFunc_Sstring_string__impl_ValidConstruction_1 l = some (!l.all nameB) := by
  have h' : w_slices_IndexFunc_Sstring_string__impl_ValidConstruction_1_3 (m_slices_IndexFunc_Sstring_string__impl_ValidConstruction_1_3 l l.length 0) = _ := find_loop l hl hn l [] rfl
  have e : (!l.all nameB) = l.any fun y => !nameB y := by simp [List.all_eq_not_any_not]
  rw [g_slices_ContainsFunc_Sstring_string__impl_ValidConstruction_1, t_slices_ContainsFunc_Sstring_string__impl_ValidConstruction_1, g_slices_IndexFunc_Sstring_string__impl_ValidConstruction_1, t_slices_IndexFunc_Sstring_string__impl_ValidConstruction_1, h', e, any_findIdx]
  cases l.findIdx? (fun y => !nameB y) <;> simp [exC]

/-! valid constructions -/
def zN (x : Nm) : Bool := x.1 == 0 && (x.2.1 == 0 && (x.2.2 == 0 && true))
def zP (x : Pt) : Bool := zN x.1 && (zN x.2 && true)
def zL (x : Ln) : Bool := x.1 == 0 && (zN x.2 && true)
def argN : Nat → Nat
  | 3 => 2 | 4 => 2 | 5 => 2 | 6 => 2 | 7 => 2 | 8 => 2 | 9 => 2 | 10 => 3 | 11 => 4 | 12 => 3 | _ => 0
def chB : Nat → Bool
  | 8 => true | 10 => true | 11 => true | _ => false
def conB (k : Nat) (c : Cn) : Bool :=
  decide (c.2.2.1.length = argN k) && (c.2.2.1.all nameB && (cond (chB k) (decide (0 ≤ c.2.2.2.1) && decide (c.2.2.2.1 ≤ 7)) (decide (c.2.2.2.1 = 0)) && ((zP c.2.2.2.2.1 || k == 1) && ((zL c.2.2.2.2.2 || k == 2) && (okP c.2.2.2.2.1 && okL c.2.2.2.2.2)))))
def validC (c : Cn) : Bool := nameB c.1 && ((decide (1 ≤ c.2.1) && decide (c.2.1 ≤ 12)) && conB c.2.1.toNat c)

/-- The listed table. -/
abbrev conTab : List (ByteArray × (ByteArray × Bool)) := [((ByteArray.mk (Array.mk [])), ((ByteArray.mk (Array.mk [])), Bool.false)), ((ByteArray.mk (Array.mk [112, 111, 105, 110, 116])), ((ByteArray.mk (Array.mk [])), Bool.false)), ((ByteArray.mk (Array.mk [108, 105, 110, 101])), ((ByteArray.mk (Array.mk [])), Bool.false)), ((ByteArray.mk (Array.mk [109, 101, 101, 116])), ((ByteArray.mk (Array.mk [108, 108])), Bool.false)), ((ByteArray.mk (Array.mk [109, 105, 100, 100, 108, 101])), ((ByteArray.mk (Array.mk [112, 112])), Bool.false)), ((ByteArray.mk (Array.mk [109, 105, 114, 114, 111, 114])), ((ByteArray.mk (Array.mk [108, 120])), Bool.false)), ((ByteArray.mk (Array.mk [116, 104, 114, 111, 117, 103, 104])), ((ByteArray.mk (Array.mk [112, 112])), Bool.false)), ((ByteArray.mk (Array.mk [111, 110, 116, 111])), ((ByteArray.mk (Array.mk [112, 112])), Bool.false)), ((ByteArray.mk (Array.mk [98, 105, 115, 101, 99, 116])), ((ByteArray.mk (Array.mk [108, 108])), Bool.true)), ((ByteArray.mk (Array.mk [115, 113, 117, 97, 114, 101])), ((ByteArray.mk (Array.mk [108, 112])), Bool.false)), ((ByteArray.mk (Array.mk [102, 111, 108, 100])), ((ByteArray.mk (Array.mk [112, 108, 112])), Bool.true)), ((ByteArray.mk (Array.mk [116, 119, 111])), ((ByteArray.mk (Array.mk [112, 108, 112, 108])), Bool.true)), ((ByteArray.mk (Array.mk [97, 99, 114, 111, 115, 115])), ((ByteArray.mk (Array.mk [112, 108, 108])), Bool.false))]

theorem k_cases {k : Int} (h1 : 1 ≤ k) (h2 : k ≤ 12) : k = 1 ∨ k = 2 ∨ k = 3 ∨ k = 4 ∨ k = 5 ∨ k = 6 ∨ k = 7 ∨ k = 8 ∨ k = 9 ∨ k = 10 ∨ k = 11 ∨ k = 12 := by omega

theorem bneN {n m : Nat} : (((n : Nat) : Int) != ((m : Nat) : Int)) = !decide (n = m) := by
  rw [bne_int]
  congr 1
  by_cases h : n = m
  · rw [dec_t h, dec_t (by omega)]
  · rw [dec_f h, dec_f (by omega)]


set_option maxHeartbeats 1000000 in
theorem impl_1 (nm : ByteArray) (l : List ByteArray) (ch p0 p1 p2 p3 p4 p5 q0 q1 q2 q3 : Int) (hm : nm.size ≤ 9223372036854775807) (hl : l.length ≤ 1048576) (hn : ∀ x ∈ l, x.size ≤ 9223372036854775807) :
    g_impl_ValidConstruction (nm, 1, l, ch, ((p0, p1, p2), (p3, p4, p5)), (q0, q1, q2, q3)) = some (nameB nm && conB 1 (nm, 1, l, ch, ((p0, p1, p2), (p3, p4, p5)), (q0, q1, q2, q3))) := by
  rw [g_impl_ValidConstruction, t_impl_ValidConstruction, impl_name nm hm, Option.bind_some]
  cases nameB nm
  · rfl
  · have e : g_impl_within 1 1 12 = some true := by rw [in_impl]; rfl
    have hi : idx conTab 1 = some ((ByteArray.mk (Array.mk [112, 111, 105, 110, 116])), ((ByteArray.mk (Array.mk [])), Bool.false)) := rfl
    rw [Bool.not_true, cond_false, e, Option.bind_some, Bool.not_true, cond_false, hi, Option.bind_some]
    dsimp only
    rw [bad_ok l (by omega) hn, impl_okP, impl_okL]
    have hs : (ByteArray.size (ByteArray.mk (Array.mk []))) = 0 := rfl
    rw [hs, bneN, bne_int (a := ch)]
    unfold conB
    have hz : zP ((p0, p1, p2), (p3, p4, p5)) = ((p0 == 0 && (p1 == 0 && (p2 == 0 && true))) && ((p3 == 0 && (p4 == 0 && (p5 == 0 && true))) && true)) := rfl
    have hzl : zL (q0, q1, q2, q3) = (q0 == 0 && ((q1 == 0 && (q2 == 0 && (q3 == 0 && true))) && true)) := rfl
    simp only [hz, hzl]
    generalize ((p0 == 0 && (p1 == 0 && (p2 == 0 && true))) && ((p3 == 0 && (p4 == 0 && (p5 == 0 && true))) && true)) = a1
    generalize (q0 == 0 && ((q1 == 0 && (q2 == 0 && (q3 == 0 && true))) && true)) = a2
    generalize okP ((p0, p1, p2), (p3, p4, p5)) = a3
    generalize okL (q0, q1, q2, q3) = a4
    generalize l.all nameB = a5
    generalize decide (ch = 0) = a6
    show _ = some (true && (decide (l.length = 0) && _))
    generalize decide (l.length = 0) = a7
    cases a1 <;> cases a2 <;> cases a3 <;> cases a4 <;> cases a5 <;> cases a6 <;> cases a7 <;> rfl


set_option maxHeartbeats 1000000 in
theorem impl_2 (nm : ByteArray) (l : List ByteArray) (ch p0 p1 p2 p3 p4 p5 q0 q1 q2 q3 : Int) (hm : nm.size ≤ 9223372036854775807) (hl : l.length ≤ 1048576) (hn : ∀ x ∈ l, x.size ≤ 9223372036854775807) :
    g_impl_ValidConstruction (nm, 2, l, ch, ((p0, p1, p2), (p3, p4, p5)), (q0, q1, q2, q3)) = some (nameB nm && conB 2 (nm, 2, l, ch, ((p0, p1, p2), (p3, p4, p5)), (q0, q1, q2, q3))) := by
  rw [g_impl_ValidConstruction, t_impl_ValidConstruction, impl_name nm hm, Option.bind_some]
  cases nameB nm
  · rfl
  · have e : g_impl_within 2 1 12 = some true := by rw [in_impl]; rfl
    have hi : idx conTab 2 = some ((ByteArray.mk (Array.mk [108, 105, 110, 101])), ((ByteArray.mk (Array.mk [])), Bool.false)) := rfl
    rw [Bool.not_true, cond_false, e, Option.bind_some, Bool.not_true, cond_false, hi, Option.bind_some]
    dsimp only
    rw [bad_ok l (by omega) hn, impl_okP, impl_okL]
    have hs : (ByteArray.size (ByteArray.mk (Array.mk []))) = 0 := rfl
    rw [hs, bneN, bne_int (a := ch)]
    unfold conB
    have hz : zP ((p0, p1, p2), (p3, p4, p5)) = ((p0 == 0 && (p1 == 0 && (p2 == 0 && true))) && ((p3 == 0 && (p4 == 0 && (p5 == 0 && true))) && true)) := rfl
    have hzl : zL (q0, q1, q2, q3) = (q0 == 0 && ((q1 == 0 && (q2 == 0 && (q3 == 0 && true))) && true)) := rfl
    simp only [hz, hzl]
    generalize ((p0 == 0 && (p1 == 0 && (p2 == 0 && true))) && ((p3 == 0 && (p4 == 0 && (p5 == 0 && true))) && true)) = a1
    generalize (q0 == 0 && ((q1 == 0 && (q2 == 0 && (q3 == 0 && true))) && true)) = a2
    generalize okP ((p0, p1, p2), (p3, p4, p5)) = a3
    generalize okL (q0, q1, q2, q3) = a4
    generalize l.all nameB = a5
    generalize decide (ch = 0) = a6
    show _ = some (true && (decide (l.length = 0) && _))
    generalize decide (l.length = 0) = a7
    cases a1 <;> cases a2 <;> cases a3 <;> cases a4 <;> cases a5 <;> cases a6 <;> cases a7 <;> rfl


set_option maxHeartbeats 1000000 in
theorem impl_3 (nm : ByteArray) (l : List ByteArray) (ch p0 p1 p2 p3 p4 p5 q0 q1 q2 q3 : Int) (hm : nm.size ≤ 9223372036854775807) (hl : l.length ≤ 1048576) (hn : ∀ x ∈ l, x.size ≤ 9223372036854775807) :
    g_impl_ValidConstruction (nm, 3, l, ch, ((p0, p1, p2), (p3, p4, p5)), (q0, q1, q2, q3)) = some (nameB nm && conB 3 (nm, 3, l, ch, ((p0, p1, p2), (p3, p4, p5)), (q0, q1, q2, q3))) := by
  rw [g_impl_ValidConstruction, t_impl_ValidConstruction, impl_name nm hm, Option.bind_some]
  cases nameB nm
  · rfl
  · have e : g_impl_within 3 1 12 = some true := by rw [in_impl]; rfl
    have hi : idx conTab 3 = some ((ByteArray.mk (Array.mk [109, 101, 101, 116])), ((ByteArray.mk (Array.mk [108, 108])), Bool.false)) := rfl
    rw [Bool.not_true, cond_false, e, Option.bind_some, Bool.not_true, cond_false, hi, Option.bind_some]
    dsimp only
    rw [bad_ok l (by omega) hn, impl_okP, impl_okL]
    have hs : (ByteArray.size (ByteArray.mk (Array.mk [108, 108]))) = 2 := rfl
    rw [hs, bneN, bne_int (a := ch)]
    unfold conB
    have hz : zP ((p0, p1, p2), (p3, p4, p5)) = ((p0 == 0 && (p1 == 0 && (p2 == 0 && true))) && ((p3 == 0 && (p4 == 0 && (p5 == 0 && true))) && true)) := rfl
    have hzl : zL (q0, q1, q2, q3) = (q0 == 0 && ((q1 == 0 && (q2 == 0 && (q3 == 0 && true))) && true)) := rfl
    simp only [hz, hzl]
    generalize ((p0 == 0 && (p1 == 0 && (p2 == 0 && true))) && ((p3 == 0 && (p4 == 0 && (p5 == 0 && true))) && true)) = a1
    generalize (q0 == 0 && ((q1 == 0 && (q2 == 0 && (q3 == 0 && true))) && true)) = a2
    generalize okP ((p0, p1, p2), (p3, p4, p5)) = a3
    generalize okL (q0, q1, q2, q3) = a4
    generalize l.all nameB = a5
    generalize decide (ch = 0) = a6
    show _ = some (true && (decide (l.length = 2) && _))
    generalize decide (l.length = 2) = a7
    cases a1 <;> cases a2 <;> cases a3 <;> cases a4 <;> cases a5 <;> cases a6 <;> cases a7 <;> rfl


set_option maxHeartbeats 1000000 in
theorem impl_4 (nm : ByteArray) (l : List ByteArray) (ch p0 p1 p2 p3 p4 p5 q0 q1 q2 q3 : Int) (hm : nm.size ≤ 9223372036854775807) (hl : l.length ≤ 1048576) (hn : ∀ x ∈ l, x.size ≤ 9223372036854775807) :
    g_impl_ValidConstruction (nm, 4, l, ch, ((p0, p1, p2), (p3, p4, p5)), (q0, q1, q2, q3)) = some (nameB nm && conB 4 (nm, 4, l, ch, ((p0, p1, p2), (p3, p4, p5)), (q0, q1, q2, q3))) := by
  rw [g_impl_ValidConstruction, t_impl_ValidConstruction, impl_name nm hm, Option.bind_some]
  cases nameB nm
  · rfl
  · have e : g_impl_within 4 1 12 = some true := by rw [in_impl]; rfl
    have hi : idx conTab 4 = some ((ByteArray.mk (Array.mk [109, 105, 100, 100, 108, 101])), ((ByteArray.mk (Array.mk [112, 112])), Bool.false)) := rfl
    rw [Bool.not_true, cond_false, e, Option.bind_some, Bool.not_true, cond_false, hi, Option.bind_some]
    dsimp only
    rw [bad_ok l (by omega) hn, impl_okP, impl_okL]
    have hs : (ByteArray.size (ByteArray.mk (Array.mk [112, 112]))) = 2 := rfl
    rw [hs, bneN, bne_int (a := ch)]
    unfold conB
    have hz : zP ((p0, p1, p2), (p3, p4, p5)) = ((p0 == 0 && (p1 == 0 && (p2 == 0 && true))) && ((p3 == 0 && (p4 == 0 && (p5 == 0 && true))) && true)) := rfl
    have hzl : zL (q0, q1, q2, q3) = (q0 == 0 && ((q1 == 0 && (q2 == 0 && (q3 == 0 && true))) && true)) := rfl
    simp only [hz, hzl]
    generalize ((p0 == 0 && (p1 == 0 && (p2 == 0 && true))) && ((p3 == 0 && (p4 == 0 && (p5 == 0 && true))) && true)) = a1
    generalize (q0 == 0 && ((q1 == 0 && (q2 == 0 && (q3 == 0 && true))) && true)) = a2
    generalize okP ((p0, p1, p2), (p3, p4, p5)) = a3
    generalize okL (q0, q1, q2, q3) = a4
    generalize l.all nameB = a5
    generalize decide (ch = 0) = a6
    show _ = some (true && (decide (l.length = 2) && _))
    generalize decide (l.length = 2) = a7
    cases a1 <;> cases a2 <;> cases a3 <;> cases a4 <;> cases a5 <;> cases a6 <;> cases a7 <;> rfl


set_option maxHeartbeats 1000000 in
theorem impl_5 (nm : ByteArray) (l : List ByteArray) (ch p0 p1 p2 p3 p4 p5 q0 q1 q2 q3 : Int) (hm : nm.size ≤ 9223372036854775807) (hl : l.length ≤ 1048576) (hn : ∀ x ∈ l, x.size ≤ 9223372036854775807) :
    g_impl_ValidConstruction (nm, 5, l, ch, ((p0, p1, p2), (p3, p4, p5)), (q0, q1, q2, q3)) = some (nameB nm && conB 5 (nm, 5, l, ch, ((p0, p1, p2), (p3, p4, p5)), (q0, q1, q2, q3))) := by
  rw [g_impl_ValidConstruction, t_impl_ValidConstruction, impl_name nm hm, Option.bind_some]
  cases nameB nm
  · rfl
  · have e : g_impl_within 5 1 12 = some true := by rw [in_impl]; rfl
    have hi : idx conTab 5 = some ((ByteArray.mk (Array.mk [109, 105, 114, 114, 111, 114])), ((ByteArray.mk (Array.mk [108, 120])), Bool.false)) := rfl
    rw [Bool.not_true, cond_false, e, Option.bind_some, Bool.not_true, cond_false, hi, Option.bind_some]
    dsimp only
    rw [bad_ok l (by omega) hn, impl_okP, impl_okL]
    have hs : (ByteArray.size (ByteArray.mk (Array.mk [108, 120]))) = 2 := rfl
    rw [hs, bneN, bne_int (a := ch)]
    unfold conB
    have hz : zP ((p0, p1, p2), (p3, p4, p5)) = ((p0 == 0 && (p1 == 0 && (p2 == 0 && true))) && ((p3 == 0 && (p4 == 0 && (p5 == 0 && true))) && true)) := rfl
    have hzl : zL (q0, q1, q2, q3) = (q0 == 0 && ((q1 == 0 && (q2 == 0 && (q3 == 0 && true))) && true)) := rfl
    simp only [hz, hzl]
    generalize ((p0 == 0 && (p1 == 0 && (p2 == 0 && true))) && ((p3 == 0 && (p4 == 0 && (p5 == 0 && true))) && true)) = a1
    generalize (q0 == 0 && ((q1 == 0 && (q2 == 0 && (q3 == 0 && true))) && true)) = a2
    generalize okP ((p0, p1, p2), (p3, p4, p5)) = a3
    generalize okL (q0, q1, q2, q3) = a4
    generalize l.all nameB = a5
    generalize decide (ch = 0) = a6
    show _ = some (true && (decide (l.length = 2) && _))
    generalize decide (l.length = 2) = a7
    cases a1 <;> cases a2 <;> cases a3 <;> cases a4 <;> cases a5 <;> cases a6 <;> cases a7 <;> rfl


set_option maxHeartbeats 1000000 in
theorem impl_6 (nm : ByteArray) (l : List ByteArray) (ch p0 p1 p2 p3 p4 p5 q0 q1 q2 q3 : Int) (hm : nm.size ≤ 9223372036854775807) (hl : l.length ≤ 1048576) (hn : ∀ x ∈ l, x.size ≤ 9223372036854775807) :
    g_impl_ValidConstruction (nm, 6, l, ch, ((p0, p1, p2), (p3, p4, p5)), (q0, q1, q2, q3)) = some (nameB nm && conB 6 (nm, 6, l, ch, ((p0, p1, p2), (p3, p4, p5)), (q0, q1, q2, q3))) := by
  rw [g_impl_ValidConstruction, t_impl_ValidConstruction, impl_name nm hm, Option.bind_some]
  cases nameB nm
  · rfl
  · have e : g_impl_within 6 1 12 = some true := by rw [in_impl]; rfl
    have hi : idx conTab 6 = some ((ByteArray.mk (Array.mk [116, 104, 114, 111, 117, 103, 104])), ((ByteArray.mk (Array.mk [112, 112])), Bool.false)) := rfl
    rw [Bool.not_true, cond_false, e, Option.bind_some, Bool.not_true, cond_false, hi, Option.bind_some]
    dsimp only
    rw [bad_ok l (by omega) hn, impl_okP, impl_okL]
    have hs : (ByteArray.size (ByteArray.mk (Array.mk [112, 112]))) = 2 := rfl
    rw [hs, bneN, bne_int (a := ch)]
    unfold conB
    have hz : zP ((p0, p1, p2), (p3, p4, p5)) = ((p0 == 0 && (p1 == 0 && (p2 == 0 && true))) && ((p3 == 0 && (p4 == 0 && (p5 == 0 && true))) && true)) := rfl
    have hzl : zL (q0, q1, q2, q3) = (q0 == 0 && ((q1 == 0 && (q2 == 0 && (q3 == 0 && true))) && true)) := rfl
    simp only [hz, hzl]
    generalize ((p0 == 0 && (p1 == 0 && (p2 == 0 && true))) && ((p3 == 0 && (p4 == 0 && (p5 == 0 && true))) && true)) = a1
    generalize (q0 == 0 && ((q1 == 0 && (q2 == 0 && (q3 == 0 && true))) && true)) = a2
    generalize okP ((p0, p1, p2), (p3, p4, p5)) = a3
    generalize okL (q0, q1, q2, q3) = a4
    generalize l.all nameB = a5
    generalize decide (ch = 0) = a6
    show _ = some (true && (decide (l.length = 2) && _))
    generalize decide (l.length = 2) = a7
    cases a1 <;> cases a2 <;> cases a3 <;> cases a4 <;> cases a5 <;> cases a6 <;> cases a7 <;> rfl


set_option maxHeartbeats 1000000 in
theorem impl_7 (nm : ByteArray) (l : List ByteArray) (ch p0 p1 p2 p3 p4 p5 q0 q1 q2 q3 : Int) (hm : nm.size ≤ 9223372036854775807) (hl : l.length ≤ 1048576) (hn : ∀ x ∈ l, x.size ≤ 9223372036854775807) :
    g_impl_ValidConstruction (nm, 7, l, ch, ((p0, p1, p2), (p3, p4, p5)), (q0, q1, q2, q3)) = some (nameB nm && conB 7 (nm, 7, l, ch, ((p0, p1, p2), (p3, p4, p5)), (q0, q1, q2, q3))) := by
  rw [g_impl_ValidConstruction, t_impl_ValidConstruction, impl_name nm hm, Option.bind_some]
  cases nameB nm
  · rfl
  · have e : g_impl_within 7 1 12 = some true := by rw [in_impl]; rfl
    have hi : idx conTab 7 = some ((ByteArray.mk (Array.mk [111, 110, 116, 111])), ((ByteArray.mk (Array.mk [112, 112])), Bool.false)) := rfl
    rw [Bool.not_true, cond_false, e, Option.bind_some, Bool.not_true, cond_false, hi, Option.bind_some]
    dsimp only
    rw [bad_ok l (by omega) hn, impl_okP, impl_okL]
    have hs : (ByteArray.size (ByteArray.mk (Array.mk [112, 112]))) = 2 := rfl
    rw [hs, bneN, bne_int (a := ch)]
    unfold conB
    have hz : zP ((p0, p1, p2), (p3, p4, p5)) = ((p0 == 0 && (p1 == 0 && (p2 == 0 && true))) && ((p3 == 0 && (p4 == 0 && (p5 == 0 && true))) && true)) := rfl
    have hzl : zL (q0, q1, q2, q3) = (q0 == 0 && ((q1 == 0 && (q2 == 0 && (q3 == 0 && true))) && true)) := rfl
    simp only [hz, hzl]
    generalize ((p0 == 0 && (p1 == 0 && (p2 == 0 && true))) && ((p3 == 0 && (p4 == 0 && (p5 == 0 && true))) && true)) = a1
    generalize (q0 == 0 && ((q1 == 0 && (q2 == 0 && (q3 == 0 && true))) && true)) = a2
    generalize okP ((p0, p1, p2), (p3, p4, p5)) = a3
    generalize okL (q0, q1, q2, q3) = a4
    generalize l.all nameB = a5
    generalize decide (ch = 0) = a6
    show _ = some (true && (decide (l.length = 2) && _))
    generalize decide (l.length = 2) = a7
    cases a1 <;> cases a2 <;> cases a3 <;> cases a4 <;> cases a5 <;> cases a6 <;> cases a7 <;> rfl


set_option maxHeartbeats 1000000 in
theorem impl_8 (nm : ByteArray) (l : List ByteArray) (ch p0 p1 p2 p3 p4 p5 q0 q1 q2 q3 : Int) (hm : nm.size ≤ 9223372036854775807) (hl : l.length ≤ 1048576) (hn : ∀ x ∈ l, x.size ≤ 9223372036854775807) :
    g_impl_ValidConstruction (nm, 8, l, ch, ((p0, p1, p2), (p3, p4, p5)), (q0, q1, q2, q3)) = some (nameB nm && conB 8 (nm, 8, l, ch, ((p0, p1, p2), (p3, p4, p5)), (q0, q1, q2, q3))) := by
  rw [g_impl_ValidConstruction, t_impl_ValidConstruction, impl_name nm hm, Option.bind_some]
  cases nameB nm
  · rfl
  · have e : g_impl_within 8 1 12 = some true := by rw [in_impl]; rfl
    have hi : idx conTab 8 = some ((ByteArray.mk (Array.mk [98, 105, 115, 101, 99, 116])), ((ByteArray.mk (Array.mk [108, 108])), Bool.true)) := rfl
    rw [Bool.not_true, cond_false, e, Option.bind_some, Bool.not_true, cond_false, hi, Option.bind_some]
    dsimp only
    rw [bad_ok l (by omega) hn, impl_okP, impl_okL, in_impl]
    have hs : (ByteArray.size (ByteArray.mk (Array.mk [108, 108]))) = 2 := rfl
    rw [hs, bneN]
    unfold conB
    have hz : zP ((p0, p1, p2), (p3, p4, p5)) = ((p0 == 0 && (p1 == 0 && (p2 == 0 && true))) && ((p3 == 0 && (p4 == 0 && (p5 == 0 && true))) && true)) := rfl
    have hzl : zL (q0, q1, q2, q3) = (q0 == 0 && ((q1 == 0 && (q2 == 0 && (q3 == 0 && true))) && true)) := rfl
    simp only [hz, hzl]
    generalize ((p0 == 0 && (p1 == 0 && (p2 == 0 && true))) && ((p3 == 0 && (p4 == 0 && (p5 == 0 && true))) && true)) = a1
    generalize (q0 == 0 && ((q1 == 0 && (q2 == 0 && (q3 == 0 && true))) && true)) = a2
    generalize okP ((p0, p1, p2), (p3, p4, p5)) = a3
    generalize okL (q0, q1, q2, q3) = a4
    generalize l.all nameB = a5
    generalize (decide (0 ≤ ch) && decide (ch ≤ 7)) = a6
    show _ = some (true && (decide (l.length = 2) && _))
    generalize decide (l.length = 2) = a7
    cases a1 <;> cases a2 <;> cases a3 <;> cases a4 <;> cases a5 <;> cases a6 <;> cases a7 <;> rfl


set_option maxHeartbeats 1000000 in
theorem impl_9 (nm : ByteArray) (l : List ByteArray) (ch p0 p1 p2 p3 p4 p5 q0 q1 q2 q3 : Int) (hm : nm.size ≤ 9223372036854775807) (hl : l.length ≤ 1048576) (hn : ∀ x ∈ l, x.size ≤ 9223372036854775807) :
    g_impl_ValidConstruction (nm, 9, l, ch, ((p0, p1, p2), (p3, p4, p5)), (q0, q1, q2, q3)) = some (nameB nm && conB 9 (nm, 9, l, ch, ((p0, p1, p2), (p3, p4, p5)), (q0, q1, q2, q3))) := by
  rw [g_impl_ValidConstruction, t_impl_ValidConstruction, impl_name nm hm, Option.bind_some]
  cases nameB nm
  · rfl
  · have e : g_impl_within 9 1 12 = some true := by rw [in_impl]; rfl
    have hi : idx conTab 9 = some ((ByteArray.mk (Array.mk [115, 113, 117, 97, 114, 101])), ((ByteArray.mk (Array.mk [108, 112])), Bool.false)) := rfl
    rw [Bool.not_true, cond_false, e, Option.bind_some, Bool.not_true, cond_false, hi, Option.bind_some]
    dsimp only
    rw [bad_ok l (by omega) hn, impl_okP, impl_okL]
    have hs : (ByteArray.size (ByteArray.mk (Array.mk [108, 112]))) = 2 := rfl
    rw [hs, bneN, bne_int (a := ch)]
    unfold conB
    have hz : zP ((p0, p1, p2), (p3, p4, p5)) = ((p0 == 0 && (p1 == 0 && (p2 == 0 && true))) && ((p3 == 0 && (p4 == 0 && (p5 == 0 && true))) && true)) := rfl
    have hzl : zL (q0, q1, q2, q3) = (q0 == 0 && ((q1 == 0 && (q2 == 0 && (q3 == 0 && true))) && true)) := rfl
    simp only [hz, hzl]
    generalize ((p0 == 0 && (p1 == 0 && (p2 == 0 && true))) && ((p3 == 0 && (p4 == 0 && (p5 == 0 && true))) && true)) = a1
    generalize (q0 == 0 && ((q1 == 0 && (q2 == 0 && (q3 == 0 && true))) && true)) = a2
    generalize okP ((p0, p1, p2), (p3, p4, p5)) = a3
    generalize okL (q0, q1, q2, q3) = a4
    generalize l.all nameB = a5
    generalize decide (ch = 0) = a6
    show _ = some (true && (decide (l.length = 2) && _))
    generalize decide (l.length = 2) = a7
    cases a1 <;> cases a2 <;> cases a3 <;> cases a4 <;> cases a5 <;> cases a6 <;> cases a7 <;> rfl


set_option maxHeartbeats 1000000 in
theorem impl_10 (nm : ByteArray) (l : List ByteArray) (ch p0 p1 p2 p3 p4 p5 q0 q1 q2 q3 : Int) (hm : nm.size ≤ 9223372036854775807) (hl : l.length ≤ 1048576) (hn : ∀ x ∈ l, x.size ≤ 9223372036854775807) :
    g_impl_ValidConstruction (nm, 10, l, ch, ((p0, p1, p2), (p3, p4, p5)), (q0, q1, q2, q3)) = some (nameB nm && conB 10 (nm, 10, l, ch, ((p0, p1, p2), (p3, p4, p5)), (q0, q1, q2, q3))) := by
  rw [g_impl_ValidConstruction, t_impl_ValidConstruction, impl_name nm hm, Option.bind_some]
  cases nameB nm
  · rfl
  · have e : g_impl_within 10 1 12 = some true := by rw [in_impl]; rfl
    have hi : idx conTab 10 = some ((ByteArray.mk (Array.mk [102, 111, 108, 100])), ((ByteArray.mk (Array.mk [112, 108, 112])), Bool.true)) := rfl
    rw [Bool.not_true, cond_false, e, Option.bind_some, Bool.not_true, cond_false, hi, Option.bind_some]
    dsimp only
    rw [bad_ok l (by omega) hn, impl_okP, impl_okL, in_impl]
    have hs : (ByteArray.size (ByteArray.mk (Array.mk [112, 108, 112]))) = 3 := rfl
    rw [hs, bneN]
    unfold conB
    have hz : zP ((p0, p1, p2), (p3, p4, p5)) = ((p0 == 0 && (p1 == 0 && (p2 == 0 && true))) && ((p3 == 0 && (p4 == 0 && (p5 == 0 && true))) && true)) := rfl
    have hzl : zL (q0, q1, q2, q3) = (q0 == 0 && ((q1 == 0 && (q2 == 0 && (q3 == 0 && true))) && true)) := rfl
    simp only [hz, hzl]
    generalize ((p0 == 0 && (p1 == 0 && (p2 == 0 && true))) && ((p3 == 0 && (p4 == 0 && (p5 == 0 && true))) && true)) = a1
    generalize (q0 == 0 && ((q1 == 0 && (q2 == 0 && (q3 == 0 && true))) && true)) = a2
    generalize okP ((p0, p1, p2), (p3, p4, p5)) = a3
    generalize okL (q0, q1, q2, q3) = a4
    generalize l.all nameB = a5
    generalize (decide (0 ≤ ch) && decide (ch ≤ 7)) = a6
    show _ = some (true && (decide (l.length = 3) && _))
    generalize decide (l.length = 3) = a7
    cases a1 <;> cases a2 <;> cases a3 <;> cases a4 <;> cases a5 <;> cases a6 <;> cases a7 <;> rfl


set_option maxHeartbeats 1000000 in
theorem impl_11 (nm : ByteArray) (l : List ByteArray) (ch p0 p1 p2 p3 p4 p5 q0 q1 q2 q3 : Int) (hm : nm.size ≤ 9223372036854775807) (hl : l.length ≤ 1048576) (hn : ∀ x ∈ l, x.size ≤ 9223372036854775807) :
    g_impl_ValidConstruction (nm, 11, l, ch, ((p0, p1, p2), (p3, p4, p5)), (q0, q1, q2, q3)) = some (nameB nm && conB 11 (nm, 11, l, ch, ((p0, p1, p2), (p3, p4, p5)), (q0, q1, q2, q3))) := by
  rw [g_impl_ValidConstruction, t_impl_ValidConstruction, impl_name nm hm, Option.bind_some]
  cases nameB nm
  · rfl
  · have e : g_impl_within 11 1 12 = some true := by rw [in_impl]; rfl
    have hi : idx conTab 11 = some ((ByteArray.mk (Array.mk [116, 119, 111])), ((ByteArray.mk (Array.mk [112, 108, 112, 108])), Bool.true)) := rfl
    rw [Bool.not_true, cond_false, e, Option.bind_some, Bool.not_true, cond_false, hi, Option.bind_some]
    dsimp only
    rw [bad_ok l (by omega) hn, impl_okP, impl_okL, in_impl]
    have hs : (ByteArray.size (ByteArray.mk (Array.mk [112, 108, 112, 108]))) = 4 := rfl
    rw [hs, bneN]
    unfold conB
    have hz : zP ((p0, p1, p2), (p3, p4, p5)) = ((p0 == 0 && (p1 == 0 && (p2 == 0 && true))) && ((p3 == 0 && (p4 == 0 && (p5 == 0 && true))) && true)) := rfl
    have hzl : zL (q0, q1, q2, q3) = (q0 == 0 && ((q1 == 0 && (q2 == 0 && (q3 == 0 && true))) && true)) := rfl
    simp only [hz, hzl]
    generalize ((p0 == 0 && (p1 == 0 && (p2 == 0 && true))) && ((p3 == 0 && (p4 == 0 && (p5 == 0 && true))) && true)) = a1
    generalize (q0 == 0 && ((q1 == 0 && (q2 == 0 && (q3 == 0 && true))) && true)) = a2
    generalize okP ((p0, p1, p2), (p3, p4, p5)) = a3
    generalize okL (q0, q1, q2, q3) = a4
    generalize l.all nameB = a5
    generalize (decide (0 ≤ ch) && decide (ch ≤ 7)) = a6
    show _ = some (true && (decide (l.length = 4) && _))
    generalize decide (l.length = 4) = a7
    cases a1 <;> cases a2 <;> cases a3 <;> cases a4 <;> cases a5 <;> cases a6 <;> cases a7 <;> rfl


set_option maxHeartbeats 1000000 in
theorem impl_12 (nm : ByteArray) (l : List ByteArray) (ch p0 p1 p2 p3 p4 p5 q0 q1 q2 q3 : Int) (hm : nm.size ≤ 9223372036854775807) (hl : l.length ≤ 1048576) (hn : ∀ x ∈ l, x.size ≤ 9223372036854775807) :
    g_impl_ValidConstruction (nm, 12, l, ch, ((p0, p1, p2), (p3, p4, p5)), (q0, q1, q2, q3)) = some (nameB nm && conB 12 (nm, 12, l, ch, ((p0, p1, p2), (p3, p4, p5)), (q0, q1, q2, q3))) := by
  rw [g_impl_ValidConstruction, t_impl_ValidConstruction, impl_name nm hm, Option.bind_some]
  cases nameB nm
  · rfl
  · have e : g_impl_within 12 1 12 = some true := by rw [in_impl]; rfl
    have hi : idx conTab 12 = some ((ByteArray.mk (Array.mk [97, 99, 114, 111, 115, 115])), ((ByteArray.mk (Array.mk [112, 108, 108])), Bool.false)) := rfl
    rw [Bool.not_true, cond_false, e, Option.bind_some, Bool.not_true, cond_false, hi, Option.bind_some]
    dsimp only
    rw [bad_ok l (by omega) hn, impl_okP, impl_okL]
    have hs : (ByteArray.size (ByteArray.mk (Array.mk [112, 108, 108]))) = 3 := rfl
    rw [hs, bneN, bne_int (a := ch)]
    unfold conB
    have hz : zP ((p0, p1, p2), (p3, p4, p5)) = ((p0 == 0 && (p1 == 0 && (p2 == 0 && true))) && ((p3 == 0 && (p4 == 0 && (p5 == 0 && true))) && true)) := rfl
    have hzl : zL (q0, q1, q2, q3) = (q0 == 0 && ((q1 == 0 && (q2 == 0 && (q3 == 0 && true))) && true)) := rfl
    simp only [hz, hzl]
    generalize ((p0 == 0 && (p1 == 0 && (p2 == 0 && true))) && ((p3 == 0 && (p4 == 0 && (p5 == 0 && true))) && true)) = a1
    generalize (q0 == 0 && ((q1 == 0 && (q2 == 0 && (q3 == 0 && true))) && true)) = a2
    generalize okP ((p0, p1, p2), (p3, p4, p5)) = a3
    generalize okL (q0, q1, q2, q3) = a4
    generalize l.all nameB = a5
    generalize decide (ch = 0) = a6
    show _ = some (true && (decide (l.length = 3) && _))
    generalize decide (l.length = 3) = a7
    cases a1 <;> cases a2 <;> cases a3 <;> cases a4 <;> cases a5 <;> cases a6 <;> cases a7 <;> rfl


set_option maxHeartbeats 1000000 in
theorem spec_1 (nm : ByteArray) (l : List ByteArray) (ch p0 p1 p2 p3 p4 p5 q0 q1 q2 q3 : Int) (hl : l.length ≤ 1048576) :
    g_spec_l24Ok (nm, 1, l, ch, ((p0, p1, p2), (p3, p4, p5)), (q0, q1, q2, q3)) = some (nameB nm && conB 1 (nm, 1, l, ch, ((p0, p1, p2), (p3, p4, p5)), (q0, q1, q2, q3))) := by
  rw [g_spec_l24Ok, t_spec_l24Ok, spec_name, Option.bind_some]
  cases nameB nm
  · rfl
  · have e : g_spec_l00In 1 1 12 = some true := by rw [in_spec]; rfl
    have e2 : g_spec_l24Args 1 = some 0 := by kernel_rfl
    have e3 : g_spec_l24Chooses 1 = some false := by kernel_rfl
    have hw := arg_loop 1 ch nm ((p0, p1, p2), (p3, p4, p5)) (q0, q1, q2, q3) l hl l [] rfl
    simp only [List.length_nil] at hw
    have hw' : w_spec_l24Ok_7 (m_spec_l24Ok_7 0 nm 1 l ch p0 p1 p2 p3 p4 p5 q0 q1 q2 q3) = _ := hw
    rw [Bool.not_true, cond_false, e, Option.bind_some, Bool.not_true, cond_false, e2, Option.bind_some, in_spec, Option.bind_some, e3, Option.bind_some, hw']
    have hb : (((l.length : Nat) : Int) != 0) = !decide (l.length = 0) := bneN (m := 0)
    dsimp only
    rw [hb, bne_int (a := ch)]
    unfold conB
    have hz : zP ((p0, p1, p2), (p3, p4, p5)) = ((p0 == 0 && (p1 == 0 && (p2 == 0 && true))) && ((p3 == 0 && (p4 == 0 && (p5 == 0 && true))) && true)) := rfl
    have hzl : zL (q0, q1, q2, q3) = (q0 == 0 && ((q1 == 0 && (q2 == 0 && (q3 == 0 && true))) && true)) := rfl
    have hp := spec_okP ((p0, p1, p2), (p3, p4, p5))
    have hq := spec_okL (q0, q1, q2, q3)
    have hc : decide (ch = 0) = (decide (ch = 0) && (decide (0 ≤ ch) && decide (ch ≤ 7))) := by
      by_cases h : ch = 0
      · subst h; rfl
      · rw [dec_f h]; rfl
    simp only [hz, hzl]
    generalize ((p0 == 0 && (p1 == 0 && (p2 == 0 && true))) && ((p3 == 0 && (p4 == 0 && (p5 == 0 && true))) && true)) = a1
    generalize (q0 == 0 && ((q1 == 0 && (q2 == 0 && (q3 == 0 && true))) && true)) = a2
    cases l.all nameB
    · show _ = some (true && (decide (l.length = 0) && false))
      generalize (decide (0 ≤ ch) && decide (ch ≤ 7)) = a6
      generalize decide (ch = 0) = a8
      generalize decide (l.length = 0) = a7
      cases a1 <;> cases a2 <;> cases a6 <;> cases a7 <;> cases a8 <;> rfl
    · rw [cond_true]
      simp only [Option.bind_some, exC]
      rw [hp, hq]
      generalize okP ((p0, p1, p2), (p3, p4, p5)) = a3
      generalize okL (q0, q1, q2, q3) = a4
      show _ = some (true && (decide (l.length = 0) && (true && (decide (ch = 0) && _))))
      rw [hc]
      generalize (decide (0 ≤ ch) && decide (ch ≤ 7)) = a6
      generalize decide (ch = 0) = a8
      generalize decide (l.length = 0) = a7
      cases a1 <;> cases a2 <;> cases a3 <;> cases a4 <;> cases a6 <;> cases a7 <;> cases a8 <;> rfl


set_option maxHeartbeats 1000000 in
theorem spec_2 (nm : ByteArray) (l : List ByteArray) (ch p0 p1 p2 p3 p4 p5 q0 q1 q2 q3 : Int) (hl : l.length ≤ 1048576) :
    g_spec_l24Ok (nm, 2, l, ch, ((p0, p1, p2), (p3, p4, p5)), (q0, q1, q2, q3)) = some (nameB nm && conB 2 (nm, 2, l, ch, ((p0, p1, p2), (p3, p4, p5)), (q0, q1, q2, q3))) := by
  rw [g_spec_l24Ok, t_spec_l24Ok, spec_name, Option.bind_some]
  cases nameB nm
  · rfl
  · have e : g_spec_l00In 2 1 12 = some true := by rw [in_spec]; rfl
    have e2 : g_spec_l24Args 2 = some 0 := by kernel_rfl
    have e3 : g_spec_l24Chooses 2 = some false := by kernel_rfl
    have hw := arg_loop 2 ch nm ((p0, p1, p2), (p3, p4, p5)) (q0, q1, q2, q3) l hl l [] rfl
    simp only [List.length_nil] at hw
    have hw' : w_spec_l24Ok_7 (m_spec_l24Ok_7 0 nm 2 l ch p0 p1 p2 p3 p4 p5 q0 q1 q2 q3) = _ := hw
    rw [Bool.not_true, cond_false, e, Option.bind_some, Bool.not_true, cond_false, e2, Option.bind_some, in_spec, Option.bind_some, e3, Option.bind_some, hw']
    have hb : (((l.length : Nat) : Int) != 0) = !decide (l.length = 0) := bneN (m := 0)
    dsimp only
    rw [hb, bne_int (a := ch)]
    unfold conB
    have hz : zP ((p0, p1, p2), (p3, p4, p5)) = ((p0 == 0 && (p1 == 0 && (p2 == 0 && true))) && ((p3 == 0 && (p4 == 0 && (p5 == 0 && true))) && true)) := rfl
    have hzl : zL (q0, q1, q2, q3) = (q0 == 0 && ((q1 == 0 && (q2 == 0 && (q3 == 0 && true))) && true)) := rfl
    have hp := spec_okP ((p0, p1, p2), (p3, p4, p5))
    have hq := spec_okL (q0, q1, q2, q3)
    have hc : decide (ch = 0) = (decide (ch = 0) && (decide (0 ≤ ch) && decide (ch ≤ 7))) := by
      by_cases h : ch = 0
      · subst h; rfl
      · rw [dec_f h]; rfl
    simp only [hz, hzl]
    generalize ((p0 == 0 && (p1 == 0 && (p2 == 0 && true))) && ((p3 == 0 && (p4 == 0 && (p5 == 0 && true))) && true)) = a1
    generalize (q0 == 0 && ((q1 == 0 && (q2 == 0 && (q3 == 0 && true))) && true)) = a2
    cases l.all nameB
    · show _ = some (true && (decide (l.length = 0) && false))
      generalize (decide (0 ≤ ch) && decide (ch ≤ 7)) = a6
      generalize decide (ch = 0) = a8
      generalize decide (l.length = 0) = a7
      cases a1 <;> cases a2 <;> cases a6 <;> cases a7 <;> cases a8 <;> rfl
    · rw [cond_true]
      simp only [Option.bind_some, exC]
      rw [hp, hq]
      generalize okP ((p0, p1, p2), (p3, p4, p5)) = a3
      generalize okL (q0, q1, q2, q3) = a4
      show _ = some (true && (decide (l.length = 0) && (true && (decide (ch = 0) && _))))
      rw [hc]
      generalize (decide (0 ≤ ch) && decide (ch ≤ 7)) = a6
      generalize decide (ch = 0) = a8
      generalize decide (l.length = 0) = a7
      cases a1 <;> cases a2 <;> cases a3 <;> cases a4 <;> cases a6 <;> cases a7 <;> cases a8 <;> rfl


set_option maxHeartbeats 1000000 in
theorem spec_3 (nm : ByteArray) (l : List ByteArray) (ch p0 p1 p2 p3 p4 p5 q0 q1 q2 q3 : Int) (hl : l.length ≤ 1048576) :
    g_spec_l24Ok (nm, 3, l, ch, ((p0, p1, p2), (p3, p4, p5)), (q0, q1, q2, q3)) = some (nameB nm && conB 3 (nm, 3, l, ch, ((p0, p1, p2), (p3, p4, p5)), (q0, q1, q2, q3))) := by
  rw [g_spec_l24Ok, t_spec_l24Ok, spec_name, Option.bind_some]
  cases nameB nm
  · rfl
  · have e : g_spec_l00In 3 1 12 = some true := by rw [in_spec]; rfl
    have e2 : g_spec_l24Args 3 = some 2 := by kernel_rfl
    have e3 : g_spec_l24Chooses 3 = some false := by kernel_rfl
    have hw := arg_loop 3 ch nm ((p0, p1, p2), (p3, p4, p5)) (q0, q1, q2, q3) l hl l [] rfl
    simp only [List.length_nil] at hw
    have hw' : w_spec_l24Ok_7 (m_spec_l24Ok_7 0 nm 3 l ch p0 p1 p2 p3 p4 p5 q0 q1 q2 q3) = _ := hw
    rw [Bool.not_true, cond_false, e, Option.bind_some, Bool.not_true, cond_false, e2, Option.bind_some, in_spec, Option.bind_some, e3, Option.bind_some, hw']
    have hb : (((l.length : Nat) : Int) != 2) = !decide (l.length = 2) := bneN (m := 2)
    dsimp only
    rw [hb, bne_int (a := ch)]
    unfold conB
    have hz : zP ((p0, p1, p2), (p3, p4, p5)) = ((p0 == 0 && (p1 == 0 && (p2 == 0 && true))) && ((p3 == 0 && (p4 == 0 && (p5 == 0 && true))) && true)) := rfl
    have hzl : zL (q0, q1, q2, q3) = (q0 == 0 && ((q1 == 0 && (q2 == 0 && (q3 == 0 && true))) && true)) := rfl
    have hp := spec_okP ((p0, p1, p2), (p3, p4, p5))
    have hq := spec_okL (q0, q1, q2, q3)
    have hc : decide (ch = 0) = (decide (ch = 0) && (decide (0 ≤ ch) && decide (ch ≤ 7))) := by
      by_cases h : ch = 0
      · subst h; rfl
      · rw [dec_f h]; rfl
    simp only [hz, hzl]
    generalize ((p0 == 0 && (p1 == 0 && (p2 == 0 && true))) && ((p3 == 0 && (p4 == 0 && (p5 == 0 && true))) && true)) = a1
    generalize (q0 == 0 && ((q1 == 0 && (q2 == 0 && (q3 == 0 && true))) && true)) = a2
    cases l.all nameB
    · show _ = some (true && (decide (l.length = 2) && false))
      generalize (decide (0 ≤ ch) && decide (ch ≤ 7)) = a6
      generalize decide (ch = 0) = a8
      generalize decide (l.length = 2) = a7
      cases a1 <;> cases a2 <;> cases a6 <;> cases a7 <;> cases a8 <;> rfl
    · rw [cond_true]
      simp only [Option.bind_some, exC]
      rw [hp, hq]
      generalize okP ((p0, p1, p2), (p3, p4, p5)) = a3
      generalize okL (q0, q1, q2, q3) = a4
      show _ = some (true && (decide (l.length = 2) && (true && (decide (ch = 0) && _))))
      rw [hc]
      generalize (decide (0 ≤ ch) && decide (ch ≤ 7)) = a6
      generalize decide (ch = 0) = a8
      generalize decide (l.length = 2) = a7
      cases a1 <;> cases a2 <;> cases a3 <;> cases a4 <;> cases a6 <;> cases a7 <;> cases a8 <;> rfl


set_option maxHeartbeats 1000000 in
theorem spec_4 (nm : ByteArray) (l : List ByteArray) (ch p0 p1 p2 p3 p4 p5 q0 q1 q2 q3 : Int) (hl : l.length ≤ 1048576) :
    g_spec_l24Ok (nm, 4, l, ch, ((p0, p1, p2), (p3, p4, p5)), (q0, q1, q2, q3)) = some (nameB nm && conB 4 (nm, 4, l, ch, ((p0, p1, p2), (p3, p4, p5)), (q0, q1, q2, q3))) := by
  rw [g_spec_l24Ok, t_spec_l24Ok, spec_name, Option.bind_some]
  cases nameB nm
  · rfl
  · have e : g_spec_l00In 4 1 12 = some true := by rw [in_spec]; rfl
    have e2 : g_spec_l24Args 4 = some 2 := by kernel_rfl
    have e3 : g_spec_l24Chooses 4 = some false := by kernel_rfl
    have hw := arg_loop 4 ch nm ((p0, p1, p2), (p3, p4, p5)) (q0, q1, q2, q3) l hl l [] rfl
    simp only [List.length_nil] at hw
    have hw' : w_spec_l24Ok_7 (m_spec_l24Ok_7 0 nm 4 l ch p0 p1 p2 p3 p4 p5 q0 q1 q2 q3) = _ := hw
    rw [Bool.not_true, cond_false, e, Option.bind_some, Bool.not_true, cond_false, e2, Option.bind_some, in_spec, Option.bind_some, e3, Option.bind_some, hw']
    have hb : (((l.length : Nat) : Int) != 2) = !decide (l.length = 2) := bneN (m := 2)
    dsimp only
    rw [hb, bne_int (a := ch)]
    unfold conB
    have hz : zP ((p0, p1, p2), (p3, p4, p5)) = ((p0 == 0 && (p1 == 0 && (p2 == 0 && true))) && ((p3 == 0 && (p4 == 0 && (p5 == 0 && true))) && true)) := rfl
    have hzl : zL (q0, q1, q2, q3) = (q0 == 0 && ((q1 == 0 && (q2 == 0 && (q3 == 0 && true))) && true)) := rfl
    have hp := spec_okP ((p0, p1, p2), (p3, p4, p5))
    have hq := spec_okL (q0, q1, q2, q3)
    have hc : decide (ch = 0) = (decide (ch = 0) && (decide (0 ≤ ch) && decide (ch ≤ 7))) := by
      by_cases h : ch = 0
      · subst h; rfl
      · rw [dec_f h]; rfl
    simp only [hz, hzl]
    generalize ((p0 == 0 && (p1 == 0 && (p2 == 0 && true))) && ((p3 == 0 && (p4 == 0 && (p5 == 0 && true))) && true)) = a1
    generalize (q0 == 0 && ((q1 == 0 && (q2 == 0 && (q3 == 0 && true))) && true)) = a2
    cases l.all nameB
    · show _ = some (true && (decide (l.length = 2) && false))
      generalize (decide (0 ≤ ch) && decide (ch ≤ 7)) = a6
      generalize decide (ch = 0) = a8
      generalize decide (l.length = 2) = a7
      cases a1 <;> cases a2 <;> cases a6 <;> cases a7 <;> cases a8 <;> rfl
    · rw [cond_true]
      simp only [Option.bind_some, exC]
      rw [hp, hq]
      generalize okP ((p0, p1, p2), (p3, p4, p5)) = a3
      generalize okL (q0, q1, q2, q3) = a4
      show _ = some (true && (decide (l.length = 2) && (true && (decide (ch = 0) && _))))
      rw [hc]
      generalize (decide (0 ≤ ch) && decide (ch ≤ 7)) = a6
      generalize decide (ch = 0) = a8
      generalize decide (l.length = 2) = a7
      cases a1 <;> cases a2 <;> cases a3 <;> cases a4 <;> cases a6 <;> cases a7 <;> cases a8 <;> rfl


set_option maxHeartbeats 1000000 in
theorem spec_5 (nm : ByteArray) (l : List ByteArray) (ch p0 p1 p2 p3 p4 p5 q0 q1 q2 q3 : Int) (hl : l.length ≤ 1048576) :
    g_spec_l24Ok (nm, 5, l, ch, ((p0, p1, p2), (p3, p4, p5)), (q0, q1, q2, q3)) = some (nameB nm && conB 5 (nm, 5, l, ch, ((p0, p1, p2), (p3, p4, p5)), (q0, q1, q2, q3))) := by
  rw [g_spec_l24Ok, t_spec_l24Ok, spec_name, Option.bind_some]
  cases nameB nm
  · rfl
  · have e : g_spec_l00In 5 1 12 = some true := by rw [in_spec]; rfl
    have e2 : g_spec_l24Args 5 = some 2 := by kernel_rfl
    have e3 : g_spec_l24Chooses 5 = some false := by kernel_rfl
    have hw := arg_loop 5 ch nm ((p0, p1, p2), (p3, p4, p5)) (q0, q1, q2, q3) l hl l [] rfl
    simp only [List.length_nil] at hw
    have hw' : w_spec_l24Ok_7 (m_spec_l24Ok_7 0 nm 5 l ch p0 p1 p2 p3 p4 p5 q0 q1 q2 q3) = _ := hw
    rw [Bool.not_true, cond_false, e, Option.bind_some, Bool.not_true, cond_false, e2, Option.bind_some, in_spec, Option.bind_some, e3, Option.bind_some, hw']
    have hb : (((l.length : Nat) : Int) != 2) = !decide (l.length = 2) := bneN (m := 2)
    dsimp only
    rw [hb, bne_int (a := ch)]
    unfold conB
    have hz : zP ((p0, p1, p2), (p3, p4, p5)) = ((p0 == 0 && (p1 == 0 && (p2 == 0 && true))) && ((p3 == 0 && (p4 == 0 && (p5 == 0 && true))) && true)) := rfl
    have hzl : zL (q0, q1, q2, q3) = (q0 == 0 && ((q1 == 0 && (q2 == 0 && (q3 == 0 && true))) && true)) := rfl
    have hp := spec_okP ((p0, p1, p2), (p3, p4, p5))
    have hq := spec_okL (q0, q1, q2, q3)
    have hc : decide (ch = 0) = (decide (ch = 0) && (decide (0 ≤ ch) && decide (ch ≤ 7))) := by
      by_cases h : ch = 0
      · subst h; rfl
      · rw [dec_f h]; rfl
    simp only [hz, hzl]
    generalize ((p0 == 0 && (p1 == 0 && (p2 == 0 && true))) && ((p3 == 0 && (p4 == 0 && (p5 == 0 && true))) && true)) = a1
    generalize (q0 == 0 && ((q1 == 0 && (q2 == 0 && (q3 == 0 && true))) && true)) = a2
    cases l.all nameB
    · show _ = some (true && (decide (l.length = 2) && false))
      generalize (decide (0 ≤ ch) && decide (ch ≤ 7)) = a6
      generalize decide (ch = 0) = a8
      generalize decide (l.length = 2) = a7
      cases a1 <;> cases a2 <;> cases a6 <;> cases a7 <;> cases a8 <;> rfl
    · rw [cond_true]
      simp only [Option.bind_some, exC]
      rw [hp, hq]
      generalize okP ((p0, p1, p2), (p3, p4, p5)) = a3
      generalize okL (q0, q1, q2, q3) = a4
      show _ = some (true && (decide (l.length = 2) && (true && (decide (ch = 0) && _))))
      rw [hc]
      generalize (decide (0 ≤ ch) && decide (ch ≤ 7)) = a6
      generalize decide (ch = 0) = a8
      generalize decide (l.length = 2) = a7
      cases a1 <;> cases a2 <;> cases a3 <;> cases a4 <;> cases a6 <;> cases a7 <;> cases a8 <;> rfl


set_option maxHeartbeats 1000000 in
theorem spec_6 (nm : ByteArray) (l : List ByteArray) (ch p0 p1 p2 p3 p4 p5 q0 q1 q2 q3 : Int) (hl : l.length ≤ 1048576) :
    g_spec_l24Ok (nm, 6, l, ch, ((p0, p1, p2), (p3, p4, p5)), (q0, q1, q2, q3)) = some (nameB nm && conB 6 (nm, 6, l, ch, ((p0, p1, p2), (p3, p4, p5)), (q0, q1, q2, q3))) := by
  rw [g_spec_l24Ok, t_spec_l24Ok, spec_name, Option.bind_some]
  cases nameB nm
  · rfl
  · have e : g_spec_l00In 6 1 12 = some true := by rw [in_spec]; rfl
    have e2 : g_spec_l24Args 6 = some 2 := by kernel_rfl
    have e3 : g_spec_l24Chooses 6 = some false := by kernel_rfl
    have hw := arg_loop 6 ch nm ((p0, p1, p2), (p3, p4, p5)) (q0, q1, q2, q3) l hl l [] rfl
    simp only [List.length_nil] at hw
    have hw' : w_spec_l24Ok_7 (m_spec_l24Ok_7 0 nm 6 l ch p0 p1 p2 p3 p4 p5 q0 q1 q2 q3) = _ := hw
    rw [Bool.not_true, cond_false, e, Option.bind_some, Bool.not_true, cond_false, e2, Option.bind_some, in_spec, Option.bind_some, e3, Option.bind_some, hw']
    have hb : (((l.length : Nat) : Int) != 2) = !decide (l.length = 2) := bneN (m := 2)
    dsimp only
    rw [hb, bne_int (a := ch)]
    unfold conB
    have hz : zP ((p0, p1, p2), (p3, p4, p5)) = ((p0 == 0 && (p1 == 0 && (p2 == 0 && true))) && ((p3 == 0 && (p4 == 0 && (p5 == 0 && true))) && true)) := rfl
    have hzl : zL (q0, q1, q2, q3) = (q0 == 0 && ((q1 == 0 && (q2 == 0 && (q3 == 0 && true))) && true)) := rfl
    have hp := spec_okP ((p0, p1, p2), (p3, p4, p5))
    have hq := spec_okL (q0, q1, q2, q3)
    have hc : decide (ch = 0) = (decide (ch = 0) && (decide (0 ≤ ch) && decide (ch ≤ 7))) := by
      by_cases h : ch = 0
      · subst h; rfl
      · rw [dec_f h]; rfl
    simp only [hz, hzl]
    generalize ((p0 == 0 && (p1 == 0 && (p2 == 0 && true))) && ((p3 == 0 && (p4 == 0 && (p5 == 0 && true))) && true)) = a1
    generalize (q0 == 0 && ((q1 == 0 && (q2 == 0 && (q3 == 0 && true))) && true)) = a2
    cases l.all nameB
    · show _ = some (true && (decide (l.length = 2) && false))
      generalize (decide (0 ≤ ch) && decide (ch ≤ 7)) = a6
      generalize decide (ch = 0) = a8
      generalize decide (l.length = 2) = a7
      cases a1 <;> cases a2 <;> cases a6 <;> cases a7 <;> cases a8 <;> rfl
    · rw [cond_true]
      simp only [Option.bind_some, exC]
      rw [hp, hq]
      generalize okP ((p0, p1, p2), (p3, p4, p5)) = a3
      generalize okL (q0, q1, q2, q3) = a4
      show _ = some (true && (decide (l.length = 2) && (true && (decide (ch = 0) && _))))
      rw [hc]
      generalize (decide (0 ≤ ch) && decide (ch ≤ 7)) = a6
      generalize decide (ch = 0) = a8
      generalize decide (l.length = 2) = a7
      cases a1 <;> cases a2 <;> cases a3 <;> cases a4 <;> cases a6 <;> cases a7 <;> cases a8 <;> rfl


set_option maxHeartbeats 1000000 in
theorem spec_7 (nm : ByteArray) (l : List ByteArray) (ch p0 p1 p2 p3 p4 p5 q0 q1 q2 q3 : Int) (hl : l.length ≤ 1048576) :
    g_spec_l24Ok (nm, 7, l, ch, ((p0, p1, p2), (p3, p4, p5)), (q0, q1, q2, q3)) = some (nameB nm && conB 7 (nm, 7, l, ch, ((p0, p1, p2), (p3, p4, p5)), (q0, q1, q2, q3))) := by
  rw [g_spec_l24Ok, t_spec_l24Ok, spec_name, Option.bind_some]
  cases nameB nm
  · rfl
  · have e : g_spec_l00In 7 1 12 = some true := by rw [in_spec]; rfl
    have e2 : g_spec_l24Args 7 = some 2 := by kernel_rfl
    have e3 : g_spec_l24Chooses 7 = some false := by kernel_rfl
    have hw := arg_loop 7 ch nm ((p0, p1, p2), (p3, p4, p5)) (q0, q1, q2, q3) l hl l [] rfl
    simp only [List.length_nil] at hw
    have hw' : w_spec_l24Ok_7 (m_spec_l24Ok_7 0 nm 7 l ch p0 p1 p2 p3 p4 p5 q0 q1 q2 q3) = _ := hw
    rw [Bool.not_true, cond_false, e, Option.bind_some, Bool.not_true, cond_false, e2, Option.bind_some, in_spec, Option.bind_some, e3, Option.bind_some, hw']
    have hb : (((l.length : Nat) : Int) != 2) = !decide (l.length = 2) := bneN (m := 2)
    dsimp only
    rw [hb, bne_int (a := ch)]
    unfold conB
    have hz : zP ((p0, p1, p2), (p3, p4, p5)) = ((p0 == 0 && (p1 == 0 && (p2 == 0 && true))) && ((p3 == 0 && (p4 == 0 && (p5 == 0 && true))) && true)) := rfl
    have hzl : zL (q0, q1, q2, q3) = (q0 == 0 && ((q1 == 0 && (q2 == 0 && (q3 == 0 && true))) && true)) := rfl
    have hp := spec_okP ((p0, p1, p2), (p3, p4, p5))
    have hq := spec_okL (q0, q1, q2, q3)
    have hc : decide (ch = 0) = (decide (ch = 0) && (decide (0 ≤ ch) && decide (ch ≤ 7))) := by
      by_cases h : ch = 0
      · subst h; rfl
      · rw [dec_f h]; rfl
    simp only [hz, hzl]
    generalize ((p0 == 0 && (p1 == 0 && (p2 == 0 && true))) && ((p3 == 0 && (p4 == 0 && (p5 == 0 && true))) && true)) = a1
    generalize (q0 == 0 && ((q1 == 0 && (q2 == 0 && (q3 == 0 && true))) && true)) = a2
    cases l.all nameB
    · show _ = some (true && (decide (l.length = 2) && false))
      generalize (decide (0 ≤ ch) && decide (ch ≤ 7)) = a6
      generalize decide (ch = 0) = a8
      generalize decide (l.length = 2) = a7
      cases a1 <;> cases a2 <;> cases a6 <;> cases a7 <;> cases a8 <;> rfl
    · rw [cond_true]
      simp only [Option.bind_some, exC]
      rw [hp, hq]
      generalize okP ((p0, p1, p2), (p3, p4, p5)) = a3
      generalize okL (q0, q1, q2, q3) = a4
      show _ = some (true && (decide (l.length = 2) && (true && (decide (ch = 0) && _))))
      rw [hc]
      generalize (decide (0 ≤ ch) && decide (ch ≤ 7)) = a6
      generalize decide (ch = 0) = a8
      generalize decide (l.length = 2) = a7
      cases a1 <;> cases a2 <;> cases a3 <;> cases a4 <;> cases a6 <;> cases a7 <;> cases a8 <;> rfl


set_option maxHeartbeats 1000000 in
theorem spec_8 (nm : ByteArray) (l : List ByteArray) (ch p0 p1 p2 p3 p4 p5 q0 q1 q2 q3 : Int) (hl : l.length ≤ 1048576) :
    g_spec_l24Ok (nm, 8, l, ch, ((p0, p1, p2), (p3, p4, p5)), (q0, q1, q2, q3)) = some (nameB nm && conB 8 (nm, 8, l, ch, ((p0, p1, p2), (p3, p4, p5)), (q0, q1, q2, q3))) := by
  rw [g_spec_l24Ok, t_spec_l24Ok, spec_name, Option.bind_some]
  cases nameB nm
  · rfl
  · have e : g_spec_l00In 8 1 12 = some true := by rw [in_spec]; rfl
    have e2 : g_spec_l24Args 8 = some 2 := by kernel_rfl
    have e3 : g_spec_l24Chooses 8 = some true := by kernel_rfl
    have hw := arg_loop 8 ch nm ((p0, p1, p2), (p3, p4, p5)) (q0, q1, q2, q3) l hl l [] rfl
    simp only [List.length_nil] at hw
    have hw' : w_spec_l24Ok_7 (m_spec_l24Ok_7 0 nm 8 l ch p0 p1 p2 p3 p4 p5 q0 q1 q2 q3) = _ := hw
    rw [Bool.not_true, cond_false, e, Option.bind_some, Bool.not_true, cond_false, e2, Option.bind_some, in_spec, Option.bind_some, e3, Option.bind_some, hw']
    have hb : (((l.length : Nat) : Int) != 2) = !decide (l.length = 2) := bneN (m := 2)
    dsimp only
    rw [hb, bne_int (a := ch)]
    unfold conB
    have hz : zP ((p0, p1, p2), (p3, p4, p5)) = ((p0 == 0 && (p1 == 0 && (p2 == 0 && true))) && ((p3 == 0 && (p4 == 0 && (p5 == 0 && true))) && true)) := rfl
    have hzl : zL (q0, q1, q2, q3) = (q0 == 0 && ((q1 == 0 && (q2 == 0 && (q3 == 0 && true))) && true)) := rfl
    have hp := spec_okP ((p0, p1, p2), (p3, p4, p5))
    have hq := spec_okL (q0, q1, q2, q3)
    have hc : decide (ch = 0) = (decide (ch = 0) && (decide (0 ≤ ch) && decide (ch ≤ 7))) := by
      by_cases h : ch = 0
      · subst h; rfl
      · rw [dec_f h]; rfl
    simp only [hz, hzl]
    generalize ((p0 == 0 && (p1 == 0 && (p2 == 0 && true))) && ((p3 == 0 && (p4 == 0 && (p5 == 0 && true))) && true)) = a1
    generalize (q0 == 0 && ((q1 == 0 && (q2 == 0 && (q3 == 0 && true))) && true)) = a2
    cases l.all nameB
    · show _ = some (true && (decide (l.length = 2) && false))
      generalize (decide (0 ≤ ch) && decide (ch ≤ 7)) = a6
      generalize decide (ch = 0) = a8
      generalize decide (l.length = 2) = a7
      cases a1 <;> cases a2 <;> cases a6 <;> cases a7 <;> cases a8 <;> rfl
    · rw [cond_true]
      simp only [Option.bind_some, exC]
      rw [hp, hq]
      generalize okP ((p0, p1, p2), (p3, p4, p5)) = a3
      generalize okL (q0, q1, q2, q3) = a4
      show _ = some (true && (decide (l.length = 2) && (true && ((decide (0 ≤ ch) && decide (ch ≤ 7)) && _))))
      generalize (decide (0 ≤ ch) && decide (ch ≤ 7)) = a6
      generalize decide (ch = 0) = a8
      generalize decide (l.length = 2) = a7
      cases a1 <;> cases a2 <;> cases a3 <;> cases a4 <;> cases a6 <;> cases a7 <;> cases a8 <;> rfl


set_option maxHeartbeats 1000000 in
theorem spec_9 (nm : ByteArray) (l : List ByteArray) (ch p0 p1 p2 p3 p4 p5 q0 q1 q2 q3 : Int) (hl : l.length ≤ 1048576) :
    g_spec_l24Ok (nm, 9, l, ch, ((p0, p1, p2), (p3, p4, p5)), (q0, q1, q2, q3)) = some (nameB nm && conB 9 (nm, 9, l, ch, ((p0, p1, p2), (p3, p4, p5)), (q0, q1, q2, q3))) := by
  rw [g_spec_l24Ok, t_spec_l24Ok, spec_name, Option.bind_some]
  cases nameB nm
  · rfl
  · have e : g_spec_l00In 9 1 12 = some true := by rw [in_spec]; rfl
    have e2 : g_spec_l24Args 9 = some 2 := by kernel_rfl
    have e3 : g_spec_l24Chooses 9 = some false := by kernel_rfl
    have hw := arg_loop 9 ch nm ((p0, p1, p2), (p3, p4, p5)) (q0, q1, q2, q3) l hl l [] rfl
    simp only [List.length_nil] at hw
    have hw' : w_spec_l24Ok_7 (m_spec_l24Ok_7 0 nm 9 l ch p0 p1 p2 p3 p4 p5 q0 q1 q2 q3) = _ := hw
    rw [Bool.not_true, cond_false, e, Option.bind_some, Bool.not_true, cond_false, e2, Option.bind_some, in_spec, Option.bind_some, e3, Option.bind_some, hw']
    have hb : (((l.length : Nat) : Int) != 2) = !decide (l.length = 2) := bneN (m := 2)
    dsimp only
    rw [hb, bne_int (a := ch)]
    unfold conB
    have hz : zP ((p0, p1, p2), (p3, p4, p5)) = ((p0 == 0 && (p1 == 0 && (p2 == 0 && true))) && ((p3 == 0 && (p4 == 0 && (p5 == 0 && true))) && true)) := rfl
    have hzl : zL (q0, q1, q2, q3) = (q0 == 0 && ((q1 == 0 && (q2 == 0 && (q3 == 0 && true))) && true)) := rfl
    have hp := spec_okP ((p0, p1, p2), (p3, p4, p5))
    have hq := spec_okL (q0, q1, q2, q3)
    have hc : decide (ch = 0) = (decide (ch = 0) && (decide (0 ≤ ch) && decide (ch ≤ 7))) := by
      by_cases h : ch = 0
      · subst h; rfl
      · rw [dec_f h]; rfl
    simp only [hz, hzl]
    generalize ((p0 == 0 && (p1 == 0 && (p2 == 0 && true))) && ((p3 == 0 && (p4 == 0 && (p5 == 0 && true))) && true)) = a1
    generalize (q0 == 0 && ((q1 == 0 && (q2 == 0 && (q3 == 0 && true))) && true)) = a2
    cases l.all nameB
    · show _ = some (true && (decide (l.length = 2) && false))
      generalize (decide (0 ≤ ch) && decide (ch ≤ 7)) = a6
      generalize decide (ch = 0) = a8
      generalize decide (l.length = 2) = a7
      cases a1 <;> cases a2 <;> cases a6 <;> cases a7 <;> cases a8 <;> rfl
    · rw [cond_true]
      simp only [Option.bind_some, exC]
      rw [hp, hq]
      generalize okP ((p0, p1, p2), (p3, p4, p5)) = a3
      generalize okL (q0, q1, q2, q3) = a4
      show _ = some (true && (decide (l.length = 2) && (true && (decide (ch = 0) && _))))
      rw [hc]
      generalize (decide (0 ≤ ch) && decide (ch ≤ 7)) = a6
      generalize decide (ch = 0) = a8
      generalize decide (l.length = 2) = a7
      cases a1 <;> cases a2 <;> cases a3 <;> cases a4 <;> cases a6 <;> cases a7 <;> cases a8 <;> rfl


set_option maxHeartbeats 1000000 in
theorem spec_10 (nm : ByteArray) (l : List ByteArray) (ch p0 p1 p2 p3 p4 p5 q0 q1 q2 q3 : Int) (hl : l.length ≤ 1048576) :
    g_spec_l24Ok (nm, 10, l, ch, ((p0, p1, p2), (p3, p4, p5)), (q0, q1, q2, q3)) = some (nameB nm && conB 10 (nm, 10, l, ch, ((p0, p1, p2), (p3, p4, p5)), (q0, q1, q2, q3))) := by
  rw [g_spec_l24Ok, t_spec_l24Ok, spec_name, Option.bind_some]
  cases nameB nm
  · rfl
  · have e : g_spec_l00In 10 1 12 = some true := by rw [in_spec]; rfl
    have e2 : g_spec_l24Args 10 = some 3 := by kernel_rfl
    have e3 : g_spec_l24Chooses 10 = some true := by kernel_rfl
    have hw := arg_loop 10 ch nm ((p0, p1, p2), (p3, p4, p5)) (q0, q1, q2, q3) l hl l [] rfl
    simp only [List.length_nil] at hw
    have hw' : w_spec_l24Ok_7 (m_spec_l24Ok_7 0 nm 10 l ch p0 p1 p2 p3 p4 p5 q0 q1 q2 q3) = _ := hw
    rw [Bool.not_true, cond_false, e, Option.bind_some, Bool.not_true, cond_false, e2, Option.bind_some, in_spec, Option.bind_some, e3, Option.bind_some, hw']
    have hb : (((l.length : Nat) : Int) != 3) = !decide (l.length = 3) := bneN (m := 3)
    dsimp only
    rw [hb, bne_int (a := ch)]
    unfold conB
    have hz : zP ((p0, p1, p2), (p3, p4, p5)) = ((p0 == 0 && (p1 == 0 && (p2 == 0 && true))) && ((p3 == 0 && (p4 == 0 && (p5 == 0 && true))) && true)) := rfl
    have hzl : zL (q0, q1, q2, q3) = (q0 == 0 && ((q1 == 0 && (q2 == 0 && (q3 == 0 && true))) && true)) := rfl
    have hp := spec_okP ((p0, p1, p2), (p3, p4, p5))
    have hq := spec_okL (q0, q1, q2, q3)
    have hc : decide (ch = 0) = (decide (ch = 0) && (decide (0 ≤ ch) && decide (ch ≤ 7))) := by
      by_cases h : ch = 0
      · subst h; rfl
      · rw [dec_f h]; rfl
    simp only [hz, hzl]
    generalize ((p0 == 0 && (p1 == 0 && (p2 == 0 && true))) && ((p3 == 0 && (p4 == 0 && (p5 == 0 && true))) && true)) = a1
    generalize (q0 == 0 && ((q1 == 0 && (q2 == 0 && (q3 == 0 && true))) && true)) = a2
    cases l.all nameB
    · show _ = some (true && (decide (l.length = 3) && false))
      generalize (decide (0 ≤ ch) && decide (ch ≤ 7)) = a6
      generalize decide (ch = 0) = a8
      generalize decide (l.length = 3) = a7
      cases a1 <;> cases a2 <;> cases a6 <;> cases a7 <;> cases a8 <;> rfl
    · rw [cond_true]
      simp only [Option.bind_some, exC]
      rw [hp, hq]
      generalize okP ((p0, p1, p2), (p3, p4, p5)) = a3
      generalize okL (q0, q1, q2, q3) = a4
      show _ = some (true && (decide (l.length = 3) && (true && ((decide (0 ≤ ch) && decide (ch ≤ 7)) && _))))
      generalize (decide (0 ≤ ch) && decide (ch ≤ 7)) = a6
      generalize decide (ch = 0) = a8
      generalize decide (l.length = 3) = a7
      cases a1 <;> cases a2 <;> cases a3 <;> cases a4 <;> cases a6 <;> cases a7 <;> cases a8 <;> rfl


set_option maxHeartbeats 1000000 in
theorem spec_11 (nm : ByteArray) (l : List ByteArray) (ch p0 p1 p2 p3 p4 p5 q0 q1 q2 q3 : Int) (hl : l.length ≤ 1048576) :
    g_spec_l24Ok (nm, 11, l, ch, ((p0, p1, p2), (p3, p4, p5)), (q0, q1, q2, q3)) = some (nameB nm && conB 11 (nm, 11, l, ch, ((p0, p1, p2), (p3, p4, p5)), (q0, q1, q2, q3))) := by
  rw [g_spec_l24Ok, t_spec_l24Ok, spec_name, Option.bind_some]
  cases nameB nm
  · rfl
  · have e : g_spec_l00In 11 1 12 = some true := by rw [in_spec]; rfl
    have e2 : g_spec_l24Args 11 = some 4 := by kernel_rfl
    have e3 : g_spec_l24Chooses 11 = some true := by kernel_rfl
    have hw := arg_loop 11 ch nm ((p0, p1, p2), (p3, p4, p5)) (q0, q1, q2, q3) l hl l [] rfl
    simp only [List.length_nil] at hw
    have hw' : w_spec_l24Ok_7 (m_spec_l24Ok_7 0 nm 11 l ch p0 p1 p2 p3 p4 p5 q0 q1 q2 q3) = _ := hw
    rw [Bool.not_true, cond_false, e, Option.bind_some, Bool.not_true, cond_false, e2, Option.bind_some, in_spec, Option.bind_some, e3, Option.bind_some, hw']
    have hb : (((l.length : Nat) : Int) != 4) = !decide (l.length = 4) := bneN (m := 4)
    dsimp only
    rw [hb, bne_int (a := ch)]
    unfold conB
    have hz : zP ((p0, p1, p2), (p3, p4, p5)) = ((p0 == 0 && (p1 == 0 && (p2 == 0 && true))) && ((p3 == 0 && (p4 == 0 && (p5 == 0 && true))) && true)) := rfl
    have hzl : zL (q0, q1, q2, q3) = (q0 == 0 && ((q1 == 0 && (q2 == 0 && (q3 == 0 && true))) && true)) := rfl
    have hp := spec_okP ((p0, p1, p2), (p3, p4, p5))
    have hq := spec_okL (q0, q1, q2, q3)
    have hc : decide (ch = 0) = (decide (ch = 0) && (decide (0 ≤ ch) && decide (ch ≤ 7))) := by
      by_cases h : ch = 0
      · subst h; rfl
      · rw [dec_f h]; rfl
    simp only [hz, hzl]
    generalize ((p0 == 0 && (p1 == 0 && (p2 == 0 && true))) && ((p3 == 0 && (p4 == 0 && (p5 == 0 && true))) && true)) = a1
    generalize (q0 == 0 && ((q1 == 0 && (q2 == 0 && (q3 == 0 && true))) && true)) = a2
    cases l.all nameB
    · show _ = some (true && (decide (l.length = 4) && false))
      generalize (decide (0 ≤ ch) && decide (ch ≤ 7)) = a6
      generalize decide (ch = 0) = a8
      generalize decide (l.length = 4) = a7
      cases a1 <;> cases a2 <;> cases a6 <;> cases a7 <;> cases a8 <;> rfl
    · rw [cond_true]
      simp only [Option.bind_some, exC]
      rw [hp, hq]
      generalize okP ((p0, p1, p2), (p3, p4, p5)) = a3
      generalize okL (q0, q1, q2, q3) = a4
      show _ = some (true && (decide (l.length = 4) && (true && ((decide (0 ≤ ch) && decide (ch ≤ 7)) && _))))
      generalize (decide (0 ≤ ch) && decide (ch ≤ 7)) = a6
      generalize decide (ch = 0) = a8
      generalize decide (l.length = 4) = a7
      cases a1 <;> cases a2 <;> cases a3 <;> cases a4 <;> cases a6 <;> cases a7 <;> cases a8 <;> rfl


set_option maxHeartbeats 1000000 in
theorem spec_12 (nm : ByteArray) (l : List ByteArray) (ch p0 p1 p2 p3 p4 p5 q0 q1 q2 q3 : Int) (hl : l.length ≤ 1048576) :
    g_spec_l24Ok (nm, 12, l, ch, ((p0, p1, p2), (p3, p4, p5)), (q0, q1, q2, q3)) = some (nameB nm && conB 12 (nm, 12, l, ch, ((p0, p1, p2), (p3, p4, p5)), (q0, q1, q2, q3))) := by
  rw [g_spec_l24Ok, t_spec_l24Ok, spec_name, Option.bind_some]
  cases nameB nm
  · rfl
  · have e : g_spec_l00In 12 1 12 = some true := by rw [in_spec]; rfl
    have e2 : g_spec_l24Args 12 = some 3 := by kernel_rfl
    have e3 : g_spec_l24Chooses 12 = some false := by kernel_rfl
    have hw := arg_loop 12 ch nm ((p0, p1, p2), (p3, p4, p5)) (q0, q1, q2, q3) l hl l [] rfl
    simp only [List.length_nil] at hw
    have hw' : w_spec_l24Ok_7 (m_spec_l24Ok_7 0 nm 12 l ch p0 p1 p2 p3 p4 p5 q0 q1 q2 q3) = _ := hw
    rw [Bool.not_true, cond_false, e, Option.bind_some, Bool.not_true, cond_false, e2, Option.bind_some, in_spec, Option.bind_some, e3, Option.bind_some, hw']
    have hb : (((l.length : Nat) : Int) != 3) = !decide (l.length = 3) := bneN (m := 3)
    dsimp only
    rw [hb, bne_int (a := ch)]
    unfold conB
    have hz : zP ((p0, p1, p2), (p3, p4, p5)) = ((p0 == 0 && (p1 == 0 && (p2 == 0 && true))) && ((p3 == 0 && (p4 == 0 && (p5 == 0 && true))) && true)) := rfl
    have hzl : zL (q0, q1, q2, q3) = (q0 == 0 && ((q1 == 0 && (q2 == 0 && (q3 == 0 && true))) && true)) := rfl
    have hp := spec_okP ((p0, p1, p2), (p3, p4, p5))
    have hq := spec_okL (q0, q1, q2, q3)
    have hc : decide (ch = 0) = (decide (ch = 0) && (decide (0 ≤ ch) && decide (ch ≤ 7))) := by
      by_cases h : ch = 0
      · subst h; rfl
      · rw [dec_f h]; rfl
    simp only [hz, hzl]
    generalize ((p0 == 0 && (p1 == 0 && (p2 == 0 && true))) && ((p3 == 0 && (p4 == 0 && (p5 == 0 && true))) && true)) = a1
    generalize (q0 == 0 && ((q1 == 0 && (q2 == 0 && (q3 == 0 && true))) && true)) = a2
    cases l.all nameB
    · show _ = some (true && (decide (l.length = 3) && false))
      generalize (decide (0 ≤ ch) && decide (ch ≤ 7)) = a6
      generalize decide (ch = 0) = a8
      generalize decide (l.length = 3) = a7
      cases a1 <;> cases a2 <;> cases a6 <;> cases a7 <;> cases a8 <;> rfl
    · rw [cond_true]
      simp only [Option.bind_some, exC]
      rw [hp, hq]
      generalize okP ((p0, p1, p2), (p3, p4, p5)) = a3
      generalize okL (q0, q1, q2, q3) = a4
      show _ = some (true && (decide (l.length = 3) && (true && (decide (ch = 0) && _))))
      rw [hc]
      generalize (decide (0 ≤ ch) && decide (ch ≤ 7)) = a6
      generalize decide (ch = 0) = a8
      generalize decide (l.length = 3) = a7
      cases a1 <;> cases a2 <;> cases a3 <;> cases a4 <;> cases a6 <;> cases a7 <;> cases a8 <;> rfl

end Go.Proofs.YtjkljnflaifbhaaDoor
