/- Lists of items; the law. No conditions. -/
import Derived.Test.YtjkljnflaifbhaaDoorFI3
namespace Go.Proofs.YtjkljnflaifbhaaDoor
open Go.Vai
abbrev It := ByteArray × (Bool × (Pt × Ln))
theorem toItem_id (x : It) : g_laws_toItem x = some x := by
  rw [g_laws_toItem, t_laws_toItem, toPoint_id, Option.bind_some, toLine_id]; rfl
theorem eqPoint_self (p : Pt) : g_laws_eqPoint p p = some true := by
  rw [g_laws_eqPoint, t_laws_eqPoint, eqNum_self, Option.bind_some, Bool.not_true, cond_false, eqNum_self]; rfl
theorem eqItem_self (x : It) : g_laws_eqItem x x = some true := by
  rw [g_laws_eqItem, t_laws_eqItem, eqPoint_self, eqLine_self, beq_self_eq_true, beq_self_eq_true]; rfl


theorem laws_toItemS_loop (l : List It) (hl : l.length ≤ 4611686018427387904) : ∀ (r p q s : List It), l = p ++ r → q.length = p.length → s.length = r.length →
    w_laws_toItemS_4 (m_laws_toItemS_4 l (q ++ s) ((p.length : Nat) : Int)) = some (.inl (d_laws_toItemS_4_0 (q ++ r)))
  | [], p, q, s, h, hq, hs => by
    rw [wq_laws_toItemS_4, u_laws_toItemS_4, lt_end h, cond_false]
    rw [List.length_eq_zero_iff.1 hs]; rfl
  | x :: r, p, q, [], h, hq, hs => by cases hs
  | x :: r, p, q, y :: s, h, hq, hs => by
    rw [wq_laws_toItemS_4, u_laws_toItemS_4, lt_in h, cond_true, ix h, Option.bind_some]
    rw [toItem_id x, Option.bind_some]
    rw [← hq, ix (rfl : q ++ y :: s = q ++ y :: s), Option.bind_some, set_mid rfl, hq, wr h hl]
    have := laws_toItemS_loop l hl r (p ++ [x]) (q ++ [x]) s (nxt h) (by simp [hq]) (by simpa using hs)
    refine this.trans ?_
    rw [List.append_assoc]; rfl

theorem laws_toItemS_id (l : List It) (hl : l.length ≤ 1048576) : g_laws_toItemS l = some l := by
  have h := laws_toItemS_loop l (by omega) l [] [] (List.replicate l.length ((ByteArray.mk (Array.mk [])), (Bool.false, ((((0 : Int), ((0 : Int), (0 : Int))), ((0 : Int), ((0 : Int), (0 : Int)))), ((0 : Int), ((0 : Int), ((0 : Int), (0 : Int)))))))) rfl rfl (by simp)
  rw [g_laws_toItemS, t_laws_toItemS, dec_t (by omega), dec_t (by omega), dec_t (by omega)]
  simp only [cond_true]
  rw [Int.toNat_natCast]
  have h' : w_laws_toItemS_4 (m_laws_toItemS_4 l (List.replicate l.length ((ByteArray.mk (Array.mk [])), (Bool.false, ((((0 : Int), ((0 : Int), (0 : Int))), ((0 : Int), ((0 : Int), (0 : Int)))), ((0 : Int), ((0 : Int), ((0 : Int), (0 : Int)))))))) 0) = _ := h
  rw [h']; rfl


theorem laws_eqItemS_loop (l : List It) (hl : l.length ≤ 4611686018427387904) : ∀ (r p : List It), l = p ++ r → w_laws_eqItemS_5 (m_laws_eqItemS_5 l l ((p.length : Nat) : Int)) = some (.inr (.inl d_laws_eqItemS_5_1))
  | [], p, h => by
    rw [wq_laws_eqItemS_5, u_laws_eqItemS_5, lt_end h, cond_false]; rfl
  | x :: r, p, h => by
    rw [wq_laws_eqItemS_5, u_laws_eqItemS_5, lt_in h, cond_true, ix h, Option.bind_some, Option.bind_some]
    rw [eqItem_self x, Option.bind_some, Bool.not_true, cond_false, wr h (by omega)]
    exact laws_eqItemS_loop l hl r (p ++ [x]) (nxt h)
theorem laws_eqItemS_self (l : List It) (hl : l.length ≤ 4611686018427387904) : g_laws_eqItemS l l = some true := by
  have h' : w_laws_eqItemS_5 (m_laws_eqItemS_5 l l 0) = _ := laws_eqItemS_loop l hl l [] rfl
  rw [g_laws_eqItemS, t_laws_eqItemS, bne_self_eq_false, cond_false, h']; rfl


/-! the size of the input -/
theorem sz_loop (l : List It) (hl : l.length ≤ 1048576) (hn : ∀ x ∈ l, x.1.size ≤ 9223372036854775807) : ∀ (r p : List It) (k : Int), l = p ++ r → 0 ≤ k → k ≤ 1048576 →
    ∃ y, w_laws_szItemS_6 (m_laws_szItemS_6 l k ((p.length : Nat) : Int)) = some y ∧ (∃ a b, y = .inl (d_laws_szItemS_6_0 a b) ∧ b < 0) ∨ ∃ a, w_laws_szItemS_6 (m_laws_szItemS_6 l k ((p.length : Nat) : Int)) = some (.inr (.inl (d_laws_szItemS_6_1 a)))
  | [], p, k, h, h0, h1 => ⟨.inr (.inl (d_laws_szItemS_6_1 k)), .inr ⟨k, by
    rw [wq_laws_szItemS_6, u_laws_szItemS_6, lt_end h, cond_false]; rfl⟩⟩
  | x :: r, p, k, h, h0, h1 => by
    have hx := hn x (by rw [h]; simp)
    have hp := len_in h
    have hz : g_laws_szItem x k = some (if k < x.1.size then -1 else k - x.1.size) := by
      rw [g_laws_szItem, t_laws_szItem, wrap_id (n := k - x.1.size) (by omega) (by omega)]
      by_cases hk : k < x.1.size
      · rw [dec_t (by omega), if_pos hk]; rfl
      · rw [dec_f (by omega), if_neg hk]; rfl
    rw [wq_laws_szItemS_6, u_laws_szItemS_6, lt_in h, cond_true, ix h, Option.bind_some, hz, Option.bind_some]
    by_cases hk : k < x.1.size
    · rw [if_pos hk, dec_t (by omega), cond_true]
      exact ⟨_, .inl ⟨rfl, _, _, rfl, by omega⟩⟩
    · rw [if_neg hk, dec_f (by omega), cond_false, wr h (by omega)]
      exact sz_loop l hl hn r (p ++ [x]) _ (nxt h) (by omega) (by omega)

theorem sz_ok (l : List It) (hl : l.length ≤ 9223372036854775807) (hn : ∀ x ∈ l, x.1.size ≤ 9223372036854775807) : ∃ y, g_laws_szItemS l 1048576 = some y ∧ (y < 0 ∨ l.length ≤ 1048576) := by
  rw [g_laws_szItemS, t_laws_szItemS, wrap_id (n := 1048576 - (l.length : Int)) (by omega) (by omega)]
  by_cases h : (1048576 : Int) - l.length < 0
  · rw [dec_t h]; exact ⟨-1, rfl, .inl (by omega)⟩
  · rw [dec_f h, cond_false]
    obtain ⟨y, hy⟩ := sz_loop l (by omega) hn l [] (1048576 - (l.length : Int)) rfl (by omega) (by omega)
    rcases hy with ⟨h1, a, b, rfl, hb⟩ | ⟨a, h1⟩
    · have h1' : w_laws_szItemS_6 (m_laws_szItemS_6 l (1048576 - (l.length : Int)) 0) = _ := h1
      rw [h1']; exact ⟨b, rfl, .inl hb⟩
    · have h1' : w_laws_szItemS_6 (m_laws_szItemS_6 l (1048576 - (l.length : Int)) 0) = _ := h1
      rw [h1']; exact ⟨a, rfl, .inr (by omega)⟩

/-! one item -/
def zN (x : Nm) : Bool := x.1 == 0 && (x.2.1 == 0 && (x.2.2 == 0 && true))
def zP (x : Pt) : Bool := zN x.1 && (zN x.2 && true)
def zL (x : Ln) : Bool := x.1 == 0 && (zN x.2 && true)
def itemB (x : It) : Bool := nameB x.1 && cond x.2.1 (okL x.2.2.2 && zP x.2.2.1) (okP x.2.2.1 && zL x.2.2.2)

theorem spec_item (x : It) : g_spec_l24Item x = some (itemB x) := by
  rw [g_spec_l24Item, t_spec_l24Item, spec_name, Option.bind_some]
  unfold itemB
  cases nameB x.1
  · rfl
  · rw [Bool.not_true, cond_false, Bool.true_and]
    cases x.2.1
    · rw [cond_false, cond_false, spec_okP, Option.bind_some]
      cases okP x.2.2.1 <;> rfl
    · rw [cond_true, cond_true, spec_okL, Option.bind_some]
      cases okL x.2.2.2 <;> rfl

theorem impl_item (x : It) (hx : x.1.size ≤ 9223372036854775807) : g_impl_isItem x = some (itemB x) := by
  rw [g_impl_isItem, t_impl_isItem, impl_name x.1 hx]
  unfold itemB
  cases x.2.1
  · rw [cond_false, cond_false, Option.bind_some]
    cases nameB x.1
    · rfl
    · rw [cond_true, impl_okP, Option.bind_some]
      cases okP x.2.2.1 <;> rfl
  · rw [cond_true, cond_true, Option.bind_some]
    cases nameB x.1
    · rfl
    · rw [cond_true, impl_okL, Option.bind_some]
      cases okL x.2.2.2 <;> rfl

/-! all items -/
theorem all_loop {β : Type} {W : Nat → Option β} {n : Nat} {P : Nat → Bool} {e0 e1 : β} (hn : W n = some e1) (hi : ∀ i, i < n → W i = cond (P i) (W (i + 1)) (some e0)) :
    W 0 = some (cond ((List.range n).all P) e1 e0) := by
  have h : ∀ m k, m + k = n → W m = some (cond ((List.range' m k).all P) e1 e0) := by
    intro m k
    induction k generalizing m with
    | zero => intro h; have : m = n := by omega
              subst this; exact hn
    | succ k ih =>
      intro h
      rw [hi m (by omega), List.range'_succ, List.all_cons]
      cases hp : P m
      · rfl
      · rw [cond_true, ih (m + 1) (by omega), Bool.true_and]
  rw [h 0 n (by omega), List.range_eq_range']

def nmEq (a b : ByteArray) : Bool := a.toList == b.toList
def newB (l : List It) (i : Nat) : Bool := match l[i]? with
  | some x => !(l.take i).any fun y => nmEq y.1 x.1
  | none => true
def oneB (l : List It) (i : Nat) : Bool := match l[i]? with
  | some x => itemB x && newB l i
  | none => true
def itemsB (l : List It) : Bool := (List.range l.length).all (oneB l) && decide ((l.length : Int) ≤ 40)

theorem w1 {i : Nat} (h : i ≤ 1073741824) : IntKind.wrap .i64 (((i : Nat) : Int) + 1) = ((i + 1 : Nat) : Int) := by
  rw [wrap_id (by omega) (by omega)]; omega

theorem old_loop (l : List It) (hl : l.length ≤ 1048576) (i : Nat) {x : It} (hx : l[i]? = some x) :
    w_spec_l24Items_8 (m_spec_l24Items_8 l (i : Int) 0) = some (cond (newB l i) (.inr (.inl (d_spec_l24Items_8_1 l (i : Int)))) (.inl (d_spec_l24Items_8_0 l false (i : Int)))) := by
  have hi : i < l.length := (List.getElem?_eq_some_iff.1 hx).1
  have h := all_loop (W := fun k => w_spec_l24Items_8 (m_spec_l24Items_8 l (i : Int) (k : Int))) (n := i) (P := fun k => match l[k]? with | some y => !nmEq y.1 x.1 | none => true)
    (e0 := .inl (d_spec_l24Items_8_0 l false (i : Int))) (e1 := .inr (.inl (d_spec_l24Items_8_1 l (i : Int)))) ?_ ?_
  · have e : newB l i = (List.range i).all fun k => match l[k]? with | some y => !nmEq y.1 x.1 | none => true := by
      rw [Bool.eq_iff_iff]
      simp only [newB, hx, Bool.not_eq_true', List.any_eq_false, List.all_eq_true, List.mem_range]
      constructor
      · intro h k hk
        rw [List.getElem?_eq_getElem (by omega)]
        simpa using h l[k] (by rw [List.mem_take_iff_getElem]; exact ⟨k, by omega, rfl⟩)
      · intro h y hy
        rw [List.mem_take_iff_getElem] at hy
        obtain ⟨k, hk, rfl⟩ := hy
        have := h k (by omega)
        rw [List.getElem?_eq_getElem (by omega)] at this
        simpa using this
    rw [e]; exact h
  · rw [wq_spec_l24Items_8, u_spec_l24Items_8, dec_f (by omega), cond_false]; rfl
  · intro k hk
    rw [wq_spec_l24Items_8, u_spec_l24Items_8, dec_t (by omega), cond_true, idx_nat, idx_nat, hx, List.getElem?_eq_getElem (by omega), Option.bind_some, Option.bind_some, w1 (by omega)]
    show cond (nmEq l[k].1 x.1) _ _ = cond (!nmEq l[k].1 x.1) _ _
    cases nmEq l[k].1 x.1 <;> rfl

theorem spec_items (l : List It) (hl : l.length ≤ 1048576) : g_spec_l24Items l = some (itemsB l) := by
  have h := all_loop (W := fun k => w_spec_l24Items_3 (m_spec_l24Items_3 l (k : Int))) (n := l.length) (P := oneB l)
    (e0 := .inl (d_spec_l24Items_3_0 l false)) (e1 := .inr (.inl (d_spec_l24Items_3_1 l))) ?_ ?_
  · have h' : w_spec_l24Items_3 (m_spec_l24Items_3 l 0) = _ := h
    rw [g_spec_l24Items, t_spec_l24Items, h']
    unfold itemsB
    cases (List.range l.length).all (oneB l)
    · rfl
    · rw [cond_true, Option.bind_some, Bool.true_and]; rfl
  · rw [wq_spec_l24Items_3, u_spec_l24Items_3, dec_f (by omega), cond_false]; rfl
  · intro k hk
    have hx := List.getElem?_eq_getElem hk
    rw [wq_spec_l24Items_3, u_spec_l24Items_3, dec_t (by omega), cond_true, idx_nat, hx, Option.bind_some, spec_item, Option.bind_some, old_loop l hl k hx]
    unfold oneB
    rw [hx]
    show cond (!itemB l[k]) _ _ = cond (itemB l[k] && newB l k) _ _
    cases itemB l[k]
    · rfl
    · rw [Bool.not_true, cond_false, Bool.true_and]
      cases newB l k
      · rfl
      · rw [cond_true, cond_true, Option.bind_some]
        show w_spec_l24Items_3 (m_spec_l24Items_3 l (IntKind.wrap .i64 ((k : Int) + 1))) = _
        rw [w1 (by omega)]

theorem find_loop (l : List It) (nm : ByteArray) (hl : l.length ≤ 4611686018427387904) : ∀ (r p : List It), l = p ++ r →
    w_slices_IndexFunc_Simpl_Item_impl_Item__impl_itemIndex_1_3 (m_slices_IndexFunc_Simpl_Item_impl_Item__impl_itemIndex_1_3 l ((l.length : Nat) : Int) ((p.length : Nat) : Int) nm) =
      some (match r.findIdx? (fun y => nmEq y.1 nm) with | some j => .inl (d_slices_IndexFunc_Simpl_Item_impl_Item__impl_itemIndex_1_3_0 (((p.length + j : Nat) : Int))) | none => .inr (.inl d_slices_IndexFunc_Simpl_Item_impl_Item__impl_itemIndex_1_3_1))
  | [], p, h => by
    rw [wq_slices_IndexFunc_Simpl_Item_impl_Item__impl_itemIndex_1_3, u_slices_IndexFunc_Simpl_Item_impl_Item__impl_itemIndex_1_3, lt_end h, cond_false]; rfl
  | x :: r, p, h => by
    rw [wq_slices_IndexFunc_Simpl_Item_impl_Item__impl_itemIndex_1_3, u_slices_IndexFunc_Simpl_Item_impl_Item__impl_itemIndex_1_3, lt_in h, cond_true, ix h, Option.bind_some, g_impl_itemIndex_1, t_impl_itemIndex_1, Option.bind_some, List.findIdx?_cons]
    show cond (nmEq x.1 nm) _ _ = _
    cases hx : nmEq x.1 nm
    · rw [cond_false, wr h hl]
      refine (find_loop l nm hl r (p ++ [x]) (nxt h)).trans ?_
      simp only [Bool.false_eq_true, if_false]
      cases hf : r.findIdx? (fun y => nmEq y.1 nm)
      · rfl
      · simp [Nat.add_comm, Nat.add_left_comm]
    · rfl

theorem find_ok (l : List It) (nm : ByteArray) (hl : l.length ≤ 4611686018427387904) : g_impl_itemIndex l nm = some (match l.findIdx? (fun y => nmEq y.1 nm) with | some j => (j : Int) | none => -1) := by
  have h' : w_slices_IndexFunc_Simpl_Item_impl_Item__impl_itemIndex_1_3 (m_slices_IndexFunc_Simpl_Item_impl_Item__impl_itemIndex_1_3 l l.length 0 nm) = _ := find_loop l nm hl l [] rfl
  rw [g_impl_itemIndex, t_impl_itemIndex, g_slices_IndexFunc_Simpl_Item_impl_Item__impl_itemIndex_1, t_slices_IndexFunc_Simpl_Item_impl_Item__impl_itemIndex_1, h']
  cases l.findIdx? (fun y => nmEq y.1 nm) <;> simp [exC]

theorem impl_items (l : List It) (hl : l.length ≤ 1048576) (hn : ∀ x ∈ l, x.1.size ≤ 9223372036854775807) : g_impl_ValidItems l = some (itemsB l) := by
  have h := all_loop (W := fun k => w_impl_ValidItems_3 (m_impl_ValidItems_3 l l ((l.length : Nat) : Int) (k : Int))) (n := l.length) (P := oneB l)
    (e0 := .inl (d_impl_ValidItems_3_0 l false)) (e1 := .inr (.inl (d_impl_ValidItems_3_1 l))) ?_ ?_
  · have h' : w_impl_ValidItems_3 (m_impl_ValidItems_3 l l ((l.length : Nat) : Int) 0) = _ := h
    rw [g_impl_ValidItems, t_impl_ValidItems, h']
    unfold itemsB
    cases (List.range l.length).all (oneB l)
    · rfl
    · rw [cond_true, Option.bind_some, Bool.true_and]; rfl
  · rw [wq_impl_ValidItems_3, u_impl_ValidItems_3, dec_f (by omega), cond_false]; rfl
  · intro k hk
    have hx := List.getElem?_eq_getElem hk
    rw [wq_impl_ValidItems_3, u_impl_ValidItems_3, dec_t (by omega), cond_true, idx_nat, hx, Option.bind_some, impl_item _ (hn _ (List.getElem_mem hk)), Option.bind_some, Int.toNat_natCast, List.drop_zero,
      find_ok _ _ (by rw [List.length_take]; omega), dec_t (by omega), dec_t (by omega), cond_true, cond_true, Option.bind_some, w1 (by omega)]
    unfold oneB newB
    rw [hx]
    have e : (decide ((match (l.take k).findIdx? (fun y => nmEq y.1 l[k].1) with | some j => ((j : Nat) : Int) | none => -1) ≥ 0)) = (l.take k).any fun y => nmEq y.1 l[k].1 := by
      rw [any_findIdx]
      cases (l.take k).findIdx? (fun y => nmEq y.1 l[k].1) with
      | none => rfl
      | some j => simp
    rw [e]
    show cond (!itemB l[k]) _ _ = cond (itemB l[k] && !(l.take k).any fun y => nmEq y.1 l[k].1) _ _
    cases itemB l[k]
    · rfl
    · cases (l.take k).any fun y => nmEq y.1 l[k].1 <;> rfl

theorem spec_find_loop (l : List It) (nm : ByteArray) (hl : l.length ≤ 4611686018427387904) : ∀ (r p : List It), l = p ++ r →
    w_spec_l24At_3 (m_spec_l24At_3 l nm ((p.length : Nat) : Int)) =
      some (match r.findIdx? (fun y => nmEq y.1 nm) with | some j => .inl (d_spec_l24At_3_0 (((p.length + j : Nat) : Int))) | none => .inr (.inl d_spec_l24At_3_1))
  | [], p, h => by
    rw [wq_spec_l24At_3, u_spec_l24At_3, lt_end h, cond_false]; rfl
  | x :: r, p, h => by
    rw [wq_spec_l24At_3, u_spec_l24At_3, lt_in h, cond_true, ix h, Option.bind_some, List.findIdx?_cons]
    show cond (nmEq x.1 nm) _ _ = _
    cases hx : nmEq x.1 nm
    · rw [cond_false, wr h hl]
      refine (spec_find_loop l nm hl r (p ++ [x]) (nxt h)).trans ?_
      simp only [Bool.false_eq_true, if_false]
      cases hf : r.findIdx? (fun y => nmEq y.1 nm)
      · rfl
      · simp [Nat.add_comm, Nat.add_left_comm]
    · rfl

theorem spec_find_ok (l : List It) (nm : ByteArray) (hl : l.length ≤ 4611686018427387904) : g_spec_l24At l nm = some (match l.findIdx? (fun y => nmEq y.1 nm) with | some j => (j : Int) | none => -1) := by
  have h' : w_spec_l24At_3 (m_spec_l24At_3 l nm 0) = _ := spec_find_loop l nm hl l [] rfl
  rw [g_spec_l24At, t_spec_l24At, h']
  cases l.findIdx? (fun y => nmEq y.1 nm) <;> simp [exC]

theorem find_same (l : List It) (nm : ByteArray) (hl : l.length ≤ 1048576) (hn : ∀ x ∈ l, x.1.size ≤ 9223372036854775807) : g_impl_FindItem l nm = g_spec_FindItem l nm := by
  rw [g_impl_FindItem, t_impl_FindItem, g_spec_FindItem, t_spec_FindItem, impl_items l hl hn, spec_items l hl, find_ok l nm (by omega), spec_find_ok l nm (by omega)]

theorem find_some (l : List It) (nm : ByteArray) (hl : l.length ≤ 1048576) : ∃ y, g_spec_FindItem l nm = some y := by
  rw [g_spec_FindItem, t_spec_FindItem, spec_items l hl, spec_find_ok l nm (by omega), Option.bind_some, Option.bind_some]
  cases itemsB l
  · exact ⟨_, rfl⟩
  · rw [Bool.not_true, cond_false]
    cases hf : l.findIdx? (fun y => nmEq y.1 nm) with
    | none => exact ⟨_, rfl⟩
    | some j =>
      have hj : j < l.length := by
        obtain ⟨h, _⟩ := List.findIdx?_eq_some_iff_getElem.1 hf
        exact h
      simp only []
      rw [dec_f (by omega), cond_false, idx_nat, List.getElem?_eq_getElem hj, Option.bind_some]
      exact ⟨_, rfl⟩

theorem law_FindItem (l : List It) (nm : ByteArray) (hl : l.length ≤ 9223372036854775807) (hn : ∀ x ∈ l, x.1.size ≤ 9223372036854775807) : g_laws_FnExactFindItem l nm = some true := by
  obtain ⟨y, hy, hc⟩ := sz_ok l hl hn
  rw [g_laws_FnExactFindItem, t_laws_FnExactFindItem]
  by_cases h0 : ((nm.size : Nat) : Int) > 1048576
  · rw [dec_t h0]; rfl
  · rw [dec_f h0, cond_false, hy, Option.bind_some]
    by_cases h : y < 0
    · rw [dec_t h]; rfl
    · have hl' : l.length ≤ 1048576 := by omega
      obtain ⟨z, hz⟩ := find_some l nm hl'
      rw [dec_f h, cond_false, laws_toItemS_id l hl', Option.bind_some, hz, Option.bind_some, Option.bind_some, find_same l nm hl' hn, hz, Option.bind_some, eqItem_self, Option.bind_some, Bool.not_true, cond_false,
        bne_self_eq_false, cond_false, Option.bind_some, laws_eqItemS_self l (by omega)]; rfl
end Go.Proofs.YtjkljnflaifbhaaDoor
