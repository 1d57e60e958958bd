/- What is proved: the law FnExactValidStrip returns true at every input and leaves it as it was. No conditions. -/
import Derived.Test.YtnpejkbnepncfaaVS6
namespace Go.Proofs.Ytnpejkbnepncfaa
open Go.ChangeShapes Go.WideShapes Go.ChangeAt Go.RowKit Go.Vai

theorem Try.own : ownKnob Try.prog.godebug = none := by kernel_rfl
theorem Try.laidOut : laidOutB Try.prog = true := by kernel_rfl

abbrev kLaw : Contract := .fn [aP] Unit (fun z => if (z.1.1 : List Int).length ≤ maxLen ∧ (z.1.2 : List Int).length ≤ maxLen then some () else none) (fun _ => rB true)

theorem law3 : Sound C0 3 kLaw :=
  Sound.fn a10 mixed Try.func3 (by kernel_rfl) (by kernel_rfl) noHints 1 noHints_ok (fun z x h => by
    have h : (if (z.1.1 : List Int).length ≤ maxLen ∧ (z.1.2 : List Int).length ≤ maxLen then some () else none) = some x := h
    split at h
    · rename_i hw
      exact law_ok z.1.1 z.1.2 hw.1 hw.2
    · cases h)

theorem f_calls {w : World} {H : Type} {enc : TypeId × Value → H} {r : Reach} {b0 : Nat} {v : Value} {d : DataW H} {ps : List MemPlace} {T : TypeId} (hl : layOk Try.prog 8 T tS2 = true) (hag : aggOf Try.prog T = some true) (hval : Value.okWide Try.prog w r b0 T v)
    (h : DataW.Trod enc Try.prog w 0 (fun _ => true) true T v d ps) : Calls Try.prog 3 #[v] w fun e w' => e = .returned (.bool true) ∧ Below w.heap.size w w' := by
  obtain ⟨z, hz, hw⟩ := arg_open hl hval h
  refine law_calls (C := C0) law3 (fun _ => rfl) (vals := [argVal Try.prog T tS2 z]) ⟨v, [], rfl, hz, rfl⟩ (x := ()) ?_ rfl
  simp only [argVal, hag]
  show (if (z.1 : List Int).length ≤ maxLen ∧ (z.2 : List Int).length ≤ maxLen then some () else none) = some ()
  rw [if_pos ⟨hw.1.1, hw.2.1⟩]

set_option maxRecDepth 100000 in
theorem f_lifted (os : Os) (started : os.Started) (H : Type) (enc : TypeId × Value → H) :
    ReturnsInHanded {} Try.checked os 3 .any (Rows.fnExactValidStripSpec.pre6 enc Try.prog Try.f3 Rows.fnExactValidStripRow.domain false) (Rows.fnExactValidStripSpec.post enc Try.prog Try.f3 false true false false) := by
  refine returnsInHanded_of_change (C := Try.checked) Try.own started (by kernel_rfl) Try.func3
    (ChangeSpec.witness6 (enc := enc) (C := Try.checked) false ⟨#[], #[.agg #[.slice none 0 0, .slice none 0 0]], []⟩ 8 (by kernel_rfl) (by kernel_rfl) (by kernel_rfl) (by kernel_rfl)) ?_
  intro W base args ds gs before hval0 hW hcnd _
  have hval : ∀ (j : Nat) t v, Try.f3.params[j]? = some t → args[j]? = some v → Value.okWide Try.prog W .any base t v := hval0
  have hW' := hW
  have hlt := fun p hp => hW.lt p hp
  obtain ⟨p, q, hA0, hV, rfl, hfz, hnd⟩ := hW
  have hA : DataW.TrodAll enc Try.prog W 0 (fun _ => true) true Try.f3.params.toList args.toList ds p := hA0
  rw [Try.params3] at hA hval
  obtain ⟨v0, d0, rfl, rfl, h0⟩ := trodAll_one hA
  obtain ⟨rfl, rfl⟩ := trodVars_none hV
  have hv0 := hval 0 _ v0 rfl rfl
  clear hA0 hval0
  simp only [List.append_nil] at hW' hlt
  refine (f_calls (by kernel_rfl) (by kernel_rfl) hv0 h0).mono fun e W' ⟨he, hb⟩ => ?_
  subst he
  exact ⟨_, rfl, [d0], [], p, [], p, [], hW', trodAll_mk1 (shut_bool (by kernel_rfl) true), (show DataW.TrodAll enc Try.prog W' 0 _ true [24] [v0] [d0] p by
    have := trodAll_mk1 (Below.trod Try.laidOut (by kernel_rfl) (of_decide_eq_true (by kernel_rfl)) h0 hb hlt)
    exact this), rfl, hb.frame _, fun h => by cases h⟩

theorem validStrip_holds : Rows.FnExactValidStripSaid :=
  OpenClaim.holds_of_wide 3 Try.f3 rfl rfl rfl rfl rfl rfl rfl ⟨rfl, rfl, rfl, rfl, rfl⟩ rfl rfl rfl rfl rfl (by kernel_rfl) Try.func3 (by kernel_rfl)
    (of_decide_eq_true (by kernel_rfl)) (by unfold Func.isWrapper; first | (rw [if_pos (by decide +kernel)]; kernel_rfl) | (rw [if_neg (by decide +kernel)]; exact ⟨rfl, rfl⟩))
    (fun os started H enc _ => f_lifted os started H enc)
end Go.Proofs.Ytnpejkbnepncfaa
