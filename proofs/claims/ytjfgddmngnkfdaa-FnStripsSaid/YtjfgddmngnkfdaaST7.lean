/- The law. No conditions. -/
import Derived.Test.YtjfgddmngnkfdaaST5
import Derived.Test.YtjfgddmngnkfdaaST6
namespace Go.Proofs.Ytjfgddmngnkfdaa
open Go.Vai
/-! the law -/
theorem impl_reduce (a : Str) (h1 : a.1.length ≤ 1048576) (h2 : a.2.length ≤ 1048576) : g_impl_ReduceStrip a = some (cond (okS a) (redL 20 [] a) ([], ([], []))) := by
  rw [g_impl_ReduceStrip, t_impl_ReduceStrip, impl_ok a h1 h2, Option.bind_some]
  cases h : okS a
  · rfl
  · rw [Bool.not_true, cond_false, implReduce (okS_len h)]; rfl
theorem spec_valid (a : Str) (h1 : a.1.length ≤ 1048576) (h2 : a.2.length ≤ 1048576) : g_spec_ValidStrip a = some (okS a) := by
  rw [g_spec_ValidStrip, t_spec_ValidStrip, spec_ok a h1 h2]; rfl
theorem impl_steps (a : Str) (h : okS a = true) (h1 : a.1.length ≤ 1048576) (h2 : a.2.length ≤ 1048576) : g_impl_StepsOf a = some ((stepL a).filter (canB a)) := by
  rw [g_impl_StepsOf, t_impl_StepsOf, impl_ok a h1 h2, Option.bind_some, h, Bool.not_true, cond_false, implSteps (okS_len h)]; rfl
theorem at_ok {c : List Int} (hc : Byt c) (n : Nat) (h0 : 0 < n) (hn : n ≤ 1000) : Okk (fun i => 0 ≤ i ∧ i < (n : Int)) (g_laws_b10At c 0 (n : Int)) := by
  rw [g_laws_b10At, t_laws_b10At]
  by_cases h : (n : Int) ≤ 1
  · refine okk_t h ⟨_, rfl, ?_⟩
    constructor <;> omega
  refine okk_f h ?_
  by_cases hl : (0 : Int) < ((c.length : Nat) : Int)
  · refine okk_t hl ?_
    refine okk_b (idx_mem c (by omega) hl) fun y hy => ?_
    have hb := hc y hy
    refine okk_f (by omega) ?_
    rw [wrap_id (n := y) (by omega) (by omega)]
    refine ⟨_, rfl, ?_, ?_⟩
    · rw [Int.tmod_eq_emod_of_nonneg (by omega)]; exact Int.emod_nonneg _ (by omega)
    · rw [Int.tmod_eq_emod_of_nonneg (by omega)]; exact Int.emod_lt_of_pos _ (by omega)
  · refine okk_f hl (okk_f (by omega) ⟨_, rfl, ?_, ?_⟩)
    · rw [wrap_id (n := 0 * 37) (by omega) (by omega), wrap_id (n := 0 * 37 + 11) (by omega) (by omega), Int.tmod_eq_emod_of_nonneg (by omega)]; exact Int.emod_nonneg _ (by omega)
    · rw [wrap_id (n := 0 * 37) (by omega) (by omega), wrap_id (n := 0 * 37 + 11) (by omega) (by omega), Int.tmod_eq_emod_of_nonneg (by omega)]; exact Int.emod_lt_of_pos _ (by omega)
theorem idx_memG {α : Type} (l : List α) {i : Int} (h0 : 0 ≤ i) (h1 : i < l.length) : Okk (fun x => x ∈ l) (idx l i) := by
  unfold idx
  rw [if_pos h0, List.getElem?_eq_getElem (show i.toNat < l.length by omega)]
  exact ⟨_, rfl, List.getElem_mem _⟩
theorem red_none {a : Str} (h : (stepL a).filter (canB a) = []) : flatB a = (((a.1.length : Nat) : Int) == 1) := by
  unfold flatB redL
  rw [h]

theorem law_Strips {c m : List Int} (hc : Byt c) (hm : Byt m) : g_laws_FnStrips c m = some true := by
  rw [g_laws_FnStrips, t_laws_FnStrips]
  have long : ∀ x : List Int, ∃ b, g_laws_b10Long x = some b := fun x => ⟨_, rfl⟩
  obtain ⟨b1, e1⟩ := long c
  obtain ⟨b2, e2⟩ := long m
  rw [e1, e2, Option.bind_some]
  cases b1
  case true => rfl
  rw [cond_false, Option.bind_some]
  cases b2
  case true => rfl
  rw [cond_false]
  obtain ⟨a, ea, h1, h2⟩ := drawn_ok hc
  have k1 : a.1.length ≤ 1048576 := by omega
  have k2 : a.2.length ≤ 1048576 := by omega
  rw [ea, Option.bind_some, impl_reduce a k1 k2, Option.bind_some, spec_valid a k1 k2, Option.bind_some, impl_flat a k1 k2, Option.bind_some]
  cases h : okS a
  · rfl
  · have hS := okS_len h
    have hl : (redL 20 [] a).1.length ≤ 1048576 := by have := (redL_len 20 [] a hS).1; simp only [List.length_nil] at this; omega
    simp only [cond_true, Bool.not_true, cond_false, Bool.true_and]
    rw [implCheck a _ k1 k2 hl, impl_steps a h k1 k2, h, chk_red]
    simp only [Option.bind_some, Bool.true_and]
    have e : flatB a = ((((redL 20 [] a).2.1.length : Nat) : Int) == 1) := rfl
    rw [← e]
    simp only [beq_self_eq_true, Bool.not_true, cond_false]
    cases hf : (stepL a).filter (canB a) with
    | nil =>
      rw [red_none hf]
      simp
    | cons x r =>
      have hn : (x :: r).length ≤ 100 := by
        rw [← hf]
        have := List.length_filter_le (canB a) (stepL a)
        have := stepL_length a
        have := hS.2.1
        omega
      rw [show ((((x :: r).length : Nat) : Int) == 0) = false from (by rw [beq_eq_false_iff_ne, List.length_cons]; omega), cond_false]
      obtain ⟨i, ei, i0, i1⟩ := at_ok hm (x :: r).length (by simp) (by omega)
      rw [ei, Option.bind_some]
      obtain ⟨y, ey, hy⟩ := idx_memG (x :: r) i0 i1
      rw [ey, Option.bind_some]
      have hcan : canB a y = true := (List.mem_filter.1 (show y ∈ (stepL a).filter (canB a) by rw [hf]; exact hy)).2
      obtain ⟨v1, v2⟩ := step_conf h hcan
      have hlen := stepA_length hS y
      rw [impl_app a y k1 k2]
      have ea' : appS a y = (stepA a y, 0) := by unfold appS; rw [h, hcan]; rfl
      rw [ea', Option.bind_some]
      simp only
      rw [spec_valid _ (by omega) (by omega), impl_flat _ (by omega) (by omega), v1, flat_step h hcan]
      simp
end Go.Proofs.Ytjfgddmngnkfdaa
