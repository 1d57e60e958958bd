/- What is proved: the law FnExactKindsOfOrder returns true at every input and leaves it as it was. No conditions. -/
import Derived.Test.YtjfgddmngnkfdaaKO8
namespace Go.Proofs.Ytjfgddmngnkfdaa
open Go.ChangeShapes Go.WideShapes Go.ChangeAt Go.RowKit Go.Vai

theorem Try.own : ownKnob Try.prog.godebug = none := by kernel_rfl
theorem Try.laidOut : laidOutB Try.prog = true := by kernel_rfl

set_option maxRecDepth 100000 in
theorem f_calls {w : World} {H : Type} {enc : TypeId × Value → H} {r : Reach} {b0 : Nat} {v0 : Value} {d0 : DataW H} {p0 : List MemPlace} {v1 : Value} {d1 : DataW H} {p1 : List MemPlace} (hval0 : Value.okWide Try.prog w r b0 24 v0) (h0 : DataW.Trod enc Try.prog w 0 (fun _ => true) true 24 v0 d0 p0) (hval1 : Value.okWide Try.prog w r b0 24 v1) (h1 : DataW.Trod enc Try.prog w 0 (fun _ => true) true 24 v1 d1 p1) :
    Calls Try.prog 6 #[v0, v1] w fun e w' => e = .returned (.bool true) ∧ Below w.heap.size w w' := by
  obtain ⟨z0, hz0, hw0⟩ := arg_open (d := 8) (y := (.slice (.int .i64))) (by kernel_rfl) hval0 h0
  obtain ⟨z1, hz1, hw1⟩ := arg_open (d := 8) (y := (.slice (.int .i64))) (by kernel_rfl) hval1 h1

  refine law_calls (C := C0) so_laws_FnExactKindsOfOrder C0_glob (vals := [argVal Try.prog 24 (.slice (.int .i64)) z0, argVal Try.prog 24 (.slice (.int .i64)) z1]) ⟨v0, [v1], rfl, hz0, ⟨v1, [], rfl, hz1, rfl⟩⟩ (x := true) ?_ rfl
  have hag0 : aggOf Try.prog 24 = some false := by kernel_rfl
  simp only [argVal, hag0, Option.getD_some]
  exact xParse_vals_true (ax := as_laws_FnExactKindsOfOrder) (z := (z0, z1, ())) (by kernel_rfl) ((fun a _ b _ => law_KindsOfOrder a b) z0 hw0 z1 hw1)

set_option maxRecDepth 100000 in
theorem f_lifted (os : Os) (started : os.Started) (H : Type) (enc : TypeId × Value → H) :
    ReturnsInHanded {} Try.checked os 6 .any (Rows.fnExactKindsOfOrderSpec.pre6 enc Try.prog Try.f6 Rows.fnExactKindsOfOrderRow.domain false) (Rows.fnExactKindsOfOrderSpec.post enc Try.prog Try.f6 false true false false) := by
  refine returnsInHanded_of_change (C := Try.checked) Try.own started (by kernel_rfl) Try.func6
    (ChangeSpec.witness6 (enc := enc) (C := Try.checked) false ⟨#[], #[.slice none 0 0, .slice none 0 0], []⟩ 8 (by kernel_rfl) (by kernel_rfl) (by kernel_rfl) (by kernel_rfl)) ?_
  intro W base args ds gs before hval0 hW _ _
  have hval : ∀ (j : Nat) t v, Try.f6.params[j]? = some t → args[j]? = some v → Value.okWide Try.prog W .any base t v := hval0
  have hW' := hW
  have hlt := fun p hp => hW.lt p hp
  obtain ⟨p, q, hA0, hV, rfl, hfz, hnd⟩ := hW
  have hA : DataW.TrodAll enc Try.prog W 0 (fun _ => true) true Try.f6.params.toList args.toList ds p := hA0
  rw [Try.params6] at hA hval
  obtain ⟨v0, v1, d0, d1, p0, p1, rfl, rfl, rfl, h0, h1⟩ := trodAll_two hA
  obtain ⟨rfl, rfl⟩ := trodVars_none hV
  have hv0 := hval 0 _ v0 rfl rfl
  have hv1 := hval 1 _ v1 rfl rfl
  clear hA0 hval0
  simp only [List.append_nil] at hW' hlt
  refine (f_calls hv0 h0 hv1 h1).mono fun e W' ⟨he, hb⟩ => ?_
  subst he
  have hT : DataW.TrodAll enc Try.prog W' 0 (fun b => decide (b < W.heap.size)) true [24, 24] [v0, v1] [d0, d1] (p0 ++ p1) := by
    exact trodAll_mk2 (Below.trod Try.laidOut (by kernel_rfl) (of_decide_eq_true (by kernel_rfl)) h0 hb (fun x hx => hlt x (List.mem_append.2 (.inl hx)))) (Below.trod Try.laidOut (by kernel_rfl) (of_decide_eq_true (by kernel_rfl)) h1 hb (fun x hx => hlt x (List.mem_append.2 (.inr hx))))
  exact ⟨_, rfl, [d0, d1], [], (p0 ++ p1), [], (p0 ++ p1), [], hW', trodAll_mk1 (shut_bool (by kernel_rfl) true), hT, rfl, hb.frame _, fun h => by cases h⟩

theorem kindsOfOrder_holds : Rows.FnExactKindsOfOrderSaid :=
  OpenClaim.holds_of_wide 6 Try.f6 rfl rfl rfl rfl rfl rfl rfl ⟨rfl, rfl, rfl, rfl, rfl⟩ rfl rfl rfl rfl rfl (by kernel_rfl) Try.func6 (by kernel_rfl)
    (of_decide_eq_true (by kernel_rfl)) (by unfold Func.isWrapper; first | (rw [if_pos (by decide +kernel)]; kernel_rfl) | (rw [if_neg (by decide +kernel)]; exact ⟨rfl, rfl⟩))
    (fun os started H enc _ => f_lifted os started H enc)
end Go.Proofs.Ytjfgddmngnkfdaa
