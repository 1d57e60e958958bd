/- What is proved: the law FnExactCountFlat returns true at every input and leaves it as it was. No conditions. -/
import Derived.Test.YtpabholjoblkbaaCF5
namespace Go.Proofs.Ytpabholjoblkbaa
open Go.ChangeShapes Go.WideShapes Go.ChangeAt Go.RowKit Go.Vai

theorem Try.own : ownKnob Try.prog.godebug = none := by kernel_rfl
theorem Try.laidOut : laidOutB Try.prog = true := by kernel_rfl

set_option maxRecDepth 100000 in
theorem f_calls {w : World} {H : Type} {enc : TypeId × Value → H} {r : Reach} {b0 : Nat} {v0 : Value} {d0 : DataW H} {p0 : List MemPlace} (hval0 : Value.okWide Try.prog w r b0 22 v0) (h0 : DataW.Trod enc Try.prog w 0 (fun _ => true) true 22 v0 d0 p0) :
    Calls Try.prog 5 #[v0] w fun e w' => e = .returned (.bool true) ∧ Below w.heap.size w w' := by
  obtain ⟨z0, hz0, hw0⟩ := arg_open (d := 8) (y := (.slice (.int .i64))) (by kernel_rfl) hval0 h0

  refine law_calls (C := C0) so_laws_FnExactCountFlat C0_glob (vals := [argVal Try.prog 22 (.slice (.int .i64)) z0]) ⟨v0, [], rfl, hz0, rfl⟩ (x := true) ?_ rfl
  have hag0 : aggOf Try.prog 22 = some false := by kernel_rfl
  simp only [argVal, hag0, Option.getD_some]
  exact xParse_vals_true (ax := as_laws_FnExactCountFlat) (z := (z0, ())) (by kernel_rfl) ((fun z hw => law_CountFlat z hw.1) z0 hw0)

set_option maxRecDepth 100000 in
theorem f_lifted (os : Os) (started : os.Started) (H : Type) (enc : TypeId × Value → H) :
    ReturnsInHanded {} Try.checked os 5 .any (Rows.fnExactCountFlatSpec.pre6 enc Try.prog Try.f5 Rows.fnExactCountFlatRow.domain false) (Rows.fnExactCountFlatSpec.post enc Try.prog Try.f5 false true false false) := by
  refine returnsInHanded_of_change (C := Try.checked) Try.own started (by kernel_rfl) Try.func5
    (ChangeSpec.witness6 (enc := enc) (C := Try.checked) false ⟨#[], #[.slice none 0 0], []⟩ 8 (by kernel_rfl) (by kernel_rfl) (by kernel_rfl) (by kernel_rfl)) ?_
  intro W base args ds gs before hval0 hW _ _
  have hval : ∀ (j : Nat) t v, Try.f5.params[j]? = some t → args[j]? = some v → Value.okWide Try.prog W .any base t v := hval0
  have hW' := hW
  have hlt := fun p hp => hW.lt p hp
  obtain ⟨p, q, hA0, hV, rfl, hfz, hnd⟩ := hW
  have hA : DataW.TrodAll enc Try.prog W 0 (fun _ => true) true Try.f5.params.toList args.toList ds p := hA0
  rw [Try.params5] at hA hval
  obtain ⟨v0, d0, rfl, rfl, h0⟩ := trodAll_one hA
  obtain ⟨rfl, rfl⟩ := trodVars_none hV
  have hv0 := hval 0 _ v0 rfl rfl
  clear hA0 hval0
  simp only [List.append_nil] at hW' hlt
  refine (f_calls hv0 h0).mono fun e W' ⟨he, hb⟩ => ?_
  subst he
  have hT : DataW.TrodAll enc Try.prog W' 0 (fun b => decide (b < W.heap.size)) true [22] [v0] [d0] p := by
    exact trodAll_mk1 (Below.trod Try.laidOut (by kernel_rfl) (of_decide_eq_true (by kernel_rfl)) h0 hb (hlt))
  exact ⟨_, rfl, [d0], [], p, [], p, [], hW', trodAll_mk1 (shut_bool (by kernel_rfl) true), hT, rfl, hb.frame _, fun h => by cases h⟩

theorem countFlat_holds : Rows.FnExactCountFlatSaid :=
  OpenClaim.holds_of_wide 5 Try.f5 rfl rfl rfl rfl rfl rfl rfl ⟨rfl, rfl, rfl, rfl, rfl⟩ rfl rfl rfl rfl rfl (by kernel_rfl) Try.func5 (by kernel_rfl)
    (of_decide_eq_true (by kernel_rfl)) (by unfold Func.isWrapper; first | (rw [if_pos (by decide +kernel)]; kernel_rfl) | (rw [if_neg (by decide +kernel)]; exact ⟨rfl, rfl⟩))
    (fun os started H enc _ => f_lifted os started H enc)
end Go.Proofs.Ytpabholjoblkbaa
