/- The plain law on StartItems. No conditions. -/
import Derived.Test.YtooaomcmhgpbpaaDoorTI6
import Derived.Test.YtooaomcmhgpbpaaDoorPK
namespace Go.Proofs.YtooaomcmhgpbpaaDoor
open Go.Vai

theorem markText_loop : ∀ (n : Nat) (x : Int) (o : ByteArray), x.toNat = n → 0 ≤ x → (o.size : Int) + x ≤ 1000000000000 → ∃ t : ByteArray, w_laws_markText_5 (m_laws_markText_5 x o) = some (.inl (d_laws_markText_5_0 t)) ∧ (t.size : Int) ≤ 1000000000000 := by
  intro n
  induction n using Nat.strongRecOn with
  | _ n ih =>
    intro x o hn h0 hs
    rw [wq_laws_markText_5, u_laws_markText_5]
    by_cases hx : x > 0
    · have hd : Int.tdiv x 10 = x / 10 := Int.tdiv_eq_ediv_of_nonneg h0
      rw [dec_t hx, cond_true, dec_f ?_, cond_false, hd, wrap_id (n := x / 10) (by omega) (by omega)]
      · refine ih (x / 10).toNat (by omega) _ _ rfl (by omega) ?_
        rw [ByteArray.size_append]
        show (((1 + o.size : Nat) : Int)) + x / 10 ≤ _
        omega
      · show ¬ (((1 + o.size : Nat) : Int) > 9223372036854775807)
        omega
    · rw [dec_f hx, cond_false]
      exact ⟨o, rfl, by omega⟩

theorem markText_some {k : Int} (h0 : 1 ≤ k) (h1 : k ≤ 1000000) : ∃ t, g_laws_markText k = some t := by
  obtain ⟨t, ht, hs⟩ := markText_loop _ k ⟨#[]⟩ rfl (by omega) (by show ((0 : Nat) : Int) + k ≤ _; omega)
  rw [g_laws_markText, t_laws_markText, dec_f (by omega), cond_false, ht]
  simp only [Option.bind_some, exC]
  rw [dec_f ?_, cond_false]
  · exact ⟨_, rfl⟩
  · show ¬ (((1 + t.size : Nat) : Int) > 9223372036854775807)
    omega

noncomputable def mtx (k : Int) : ByteArray := (g_laws_markText k).getD ⟨#[]⟩
theorem markText_ok {k : Int} (h0 : 1 ≤ k) (h1 : k ≤ 1000000) : g_laws_markText k = some (mtx k) := by
  obtain ⟨t, ht⟩ := markText_some h0 h1
  unfold mtx
  rw [ht]; rfl

theorem eqNum_self' (x : Nm) : g_laws_eqNum x x = some true := by
  rw [g_laws_eqNum, t_laws_eqNum]; simp
theorem eqItem_self (x : It) : g_laws_eqItem x x = some true := by
  rw [g_laws_eqItem, t_laws_eqItem, g_laws_eqPoint, t_laws_eqPoint, g_laws_eqLine, t_laws_eqLine]
  simp only [eqNum_self', Option.bind_some]
  simp

theorem eqItems_loop (a : List It) (hl : a.length ≤ 1048576) : ∀ (r p : List It), a = p ++ r → w_laws_eqItemS_5 (m_laws_eqItemS_5 a a ((p.length : Nat) : Int)) = some (.inr (.inl d_laws_eqItemS_5_1))
  | [], p, h => by
    rw [wq_laws_eqItemS_5, u_laws_eqItemS_5, lt_end h, cond_false]; rfl
  | x :: r, p, h => by
    rw [wq_laws_eqItemS_5, u_laws_eqItemS_5, lt_in h, cond_true, ix h, Option.bind_some, Option.bind_some, eqItem_self, Option.bind_some, Bool.not_true, cond_false, wr h (by omega)]
    exact eqItems_loop a hl r (p ++ [x]) (nxt h)

theorem eqItems_self (a : List It) (hl : a.length ≤ 1048576) : g_laws_eqItemS a a = some true := by
  have h' : w_laws_eqItemS_5 (m_laws_eqItemS_5 a a 0) = _ := eqItems_loop a hl a [] rfl
  rw [g_laws_eqItemS, t_laws_eqItemS, h']
  simp [exC]

theorem sm {α : Type} (q s : List α) (y v : α) : List.set (q ++ y :: s) (0 + Int.toNat ((q.length : Nat) : Int)) v = q ++ v :: s := by
  rw [set_mid rfl, List.append_assoc]; rfl
theorem im {α : Type} (q s : List α) (y : α) : idx (q ++ y :: s) ((q.length : Nat) : Int) = some y := ix rfl

noncomputable def mkI (k : Int) : It :=
  (mtx k, ((Int.tmod (k + 1) 3 == 0), (((k + 1 + 1, (k + 1 + 1 + 1, k + 1 + 1 + 1 + 1)), (k + 1 + 1 + 1 + 1 + 1, (k + 1 + 1 + 1 + 1 + 1 + 1, k + 1 + 1 + 1 + 1 + 1 + 1 + 1))),
    (k + 1 + 1 + 1 + 1 + 1 + 1 + 1 + 1, (k + 1 + 1 + 1 + 1 + 1 + 1 + 1 + 1 + 1, (k + 1 + 1 + 1 + 1 + 1 + 1 + 1 + 1 + 1 + 1, k + 1 + 1 + 1 + 1 + 1 + 1 + 1 + 1 + 1 + 1 + 1))))))
noncomputable def mkIs : Int → Nat → List It
  | _, 0 => []
  | k, n + 1 => mkI k :: mkIs (k + 1 + 1 + 1 + 1 + 1 + 1 + 1 + 1 + 1 + 1 + 1 + 1) n

theorem w1 {k : Int} (h0 : 0 ≤ k) (h1 : k ≤ 1000000) : IntKind.wrap .i64 (k + 1) = k + 1 := wrap_id (by omega) (by omega)

theorem markI_loop : ∀ (s q : List It) (k : Int), q.length + s.length ≤ 1000 → 1 ≤ k → k + 12 * s.length ≤ 900000 →
    w_laws_markItemS_3 (m_laws_markItemS_3 (q ++ s) k ((q.length : Nat) : Int) (q ++ s)) = some (.inl (d_laws_markItemS_3_0 (k + 12 * s.length) (q ++ mkIs k s.length)))
  | [], q, k, h1, h2, h3 => by
    rw [wq_laws_markItemS_3, u_laws_markItemS_3, lt_end rfl, cond_false]
    simp [mkIs]; rfl
  | y :: s, q, k, h1, h2, h3 => by
    simp only [List.length_cons] at h1 h3
    rw [wq_laws_markItemS_3, u_laws_markItemS_3, lt_in rfl, cond_true, markText_ok h2 (by omega), Option.bind_some]
    simp only [im, sm, Option.bind_some]
    rw [w1 (k := k) (by omega) (by omega), w1 (k := k + 1) (by omega) (by omega), w1 (k := k + 1 + 1) (by omega) (by omega), w1 (k := k + 1 + 1 + 1) (by omega) (by omega), w1 (k := k + 1 + 1 + 1 + 1) (by omega) (by omega),
      w1 (k := k + 1 + 1 + 1 + 1 + 1) (by omega) (by omega), w1 (k := k + 1 + 1 + 1 + 1 + 1 + 1) (by omega) (by omega), w1 (k := k + 1 + 1 + 1 + 1 + 1 + 1 + 1) (by omega) (by omega), w1 (k := k + 1 + 1 + 1 + 1 + 1 + 1 + 1 + 1) (by omega) (by omega),
      w1 (k := k + 1 + 1 + 1 + 1 + 1 + 1 + 1 + 1 + 1) (by omega) (by omega), w1 (k := k + 1 + 1 + 1 + 1 + 1 + 1 + 1 + 1 + 1 + 1) (by omega) (by omega), w1 (k := k + 1 + 1 + 1 + 1 + 1 + 1 + 1 + 1 + 1 + 1 + 1) (by omega) (by omega)]
    rw [w1 (k := ((q.length : Nat) : Int)) (by omega) (by omega)]
    have IH := markI_loop s (q ++ [mkI k]) (k + 1 + 1 + 1 + 1 + 1 + 1 + 1 + 1 + 1 + 1 + 1 + 1) (by simp; omega) (by omega) (by omega)
    have hq : (((q ++ [mkI k]).length : Nat) : Int) = (q.length : Int) + 1 := by simp
    rw [hq, List.append_assoc, List.append_assoc] at IH
    refine Eq.trans (Eq.trans ?_ IH) ?_
    · rfl
    · rw [show k + 1 + 1 + 1 + 1 + 1 + 1 + 1 + 1 + 1 + 1 + 1 + 1 + 12 * (s.length : Int) = k + 12 * (((y :: s).length : Nat) : Int) by simp; omega]
      rfl

end Go.Proofs.YtooaomcmhgpbpaaDoor
