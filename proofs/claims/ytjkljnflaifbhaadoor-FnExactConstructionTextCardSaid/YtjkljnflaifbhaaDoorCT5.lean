/- The law. No conditions. -/
import Derived.Test.YtjkljnflaifbhaaDoorCT4
namespace Go.Proofs.YtjkljnflaifbhaaDoor
open Go.Vai
theorem out_range {k : Int} (h : ¬ (1 ≤ k ∧ k ≤ 12)) : (decide (1 ≤ k) && decide (k ≤ 12)) = false := by
  by_cases h1 : 1 ≤ k
  · rw [dec_t h1, dec_f (fun h2 => h ⟨h1, h2⟩)]; rfl
  · rw [dec_f h1]; rfl

theorem spec_con (c : Cn) (hl : c.2.2.1.length ≤ 1048576) : g_spec_l24Ok c = some (validC c) := by
  obtain ⟨nm, k, l, ch, ⟨⟨p0, p1, p2⟩, ⟨p3, p4, p5⟩⟩, ⟨q0, q1, q2, q3⟩⟩ := c
  by_cases h : 1 ≤ k ∧ k ≤ 12
  · rcases k_cases h.1 h.2 with rfl | rfl | rfl | rfl | rfl | rfl | rfl | rfl | rfl | rfl | rfl | rfl
    · exact spec_1 nm l ch p0 p1 p2 p3 p4 p5 q0 q1 q2 q3 hl
    · exact spec_2 nm l ch p0 p1 p2 p3 p4 p5 q0 q1 q2 q3 hl
    · exact spec_3 nm l ch p0 p1 p2 p3 p4 p5 q0 q1 q2 q3 hl
    · exact spec_4 nm l ch p0 p1 p2 p3 p4 p5 q0 q1 q2 q3 hl
    · exact spec_5 nm l ch p0 p1 p2 p3 p4 p5 q0 q1 q2 q3 hl
    · exact spec_6 nm l ch p0 p1 p2 p3 p4 p5 q0 q1 q2 q3 hl
    · exact spec_7 nm l ch p0 p1 p2 p3 p4 p5 q0 q1 q2 q3 hl
    · exact spec_8 nm l ch p0 p1 p2 p3 p4 p5 q0 q1 q2 q3 hl
    · exact spec_9 nm l ch p0 p1 p2 p3 p4 p5 q0 q1 q2 q3 hl
    · exact spec_10 nm l ch p0 p1 p2 p3 p4 p5 q0 q1 q2 q3 hl
    · exact spec_11 nm l ch p0 p1 p2 p3 p4 p5 q0 q1 q2 q3 hl
    · exact spec_12 nm l ch p0 p1 p2 p3 p4 p5 q0 q1 q2 q3 hl
  · rw [g_spec_l24Ok, t_spec_l24Ok, spec_name, Option.bind_some, in_spec, Option.bind_some]
    unfold validC
    dsimp only
    rw [out_range h]
    cases nameB nm <;> rfl

theorem impl_con (c : Cn) (hm : c.1.size ≤ 9223372036854775807) (hl : c.2.2.1.length ≤ 1048576) (hn : ∀ x ∈ c.2.2.1, x.size ≤ 9223372036854775807) : g_impl_ValidConstruction c = some (validC c) := by
  obtain ⟨nm, k, l, ch, ⟨⟨p0, p1, p2⟩, ⟨p3, p4, p5⟩⟩, ⟨q0, q1, q2, q3⟩⟩ := c
  by_cases h : 1 ≤ k ∧ k ≤ 12
  · rcases k_cases h.1 h.2 with rfl | rfl | rfl | rfl | rfl | rfl | rfl | rfl | rfl | rfl | rfl | rfl
    · exact impl_1 nm l ch p0 p1 p2 p3 p4 p5 q0 q1 q2 q3 hm hl hn
    · exact impl_2 nm l ch p0 p1 p2 p3 p4 p5 q0 q1 q2 q3 hm hl hn
    · exact impl_3 nm l ch p0 p1 p2 p3 p4 p5 q0 q1 q2 q3 hm hl hn
    · exact impl_4 nm l ch p0 p1 p2 p3 p4 p5 q0 q1 q2 q3 hm hl hn
    · exact impl_5 nm l ch p0 p1 p2 p3 p4 p5 q0 q1 q2 q3 hm hl hn
    · exact impl_6 nm l ch p0 p1 p2 p3 p4 p5 q0 q1 q2 q3 hm hl hn
    · exact impl_7 nm l ch p0 p1 p2 p3 p4 p5 q0 q1 q2 q3 hm hl hn
    · exact impl_8 nm l ch p0 p1 p2 p3 p4 p5 q0 q1 q2 q3 hm hl hn
    · exact impl_9 nm l ch p0 p1 p2 p3 p4 p5 q0 q1 q2 q3 hm hl hn
    · exact impl_10 nm l ch p0 p1 p2 p3 p4 p5 q0 q1 q2 q3 hm hl hn
    · exact impl_11 nm l ch p0 p1 p2 p3 p4 p5 q0 q1 q2 q3 hm hl hn
    · exact impl_12 nm l ch p0 p1 p2 p3 p4 p5 q0 q1 q2 q3 hm hl hn
  · rw [g_impl_ValidConstruction, t_impl_ValidConstruction, impl_name nm hm, Option.bind_some, in_impl, Option.bind_some]
    unfold validC
    dsimp only
    rw [out_range h]
    cases nameB nm <;> rfl

end Go.Proofs.YtjkljnflaifbhaaDoor
