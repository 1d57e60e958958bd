/- What is proved: the law FnExactFindItem returns true at every input and leaves it as it was, where the listed variables hold what the program's text lays in them; the card ties that to the text. No other conditions. -/
import Derived.Test.YtjkljnflaifbhaaDoorFI4
import Derived.Test.YtjkljnflaifbhaaDoorVaiG
import Derived.Test.YtjkljnflaifbhaaDoorTie
import Derived.Test.YtjkljnflaifbhaaDoorCards
import Derived.LaidMore
import Derived.Lay
import Derived.Stop.Joined
import Derived.SevenTiedAt
namespace Go.Proofs.YtjkljnflaifbhaaDoor
open Go.ChangeShapes Go.WideShapes Go.ChangeAt Go.RowKit Go.Vai

theorem Tryd.own : ownKnob Tryd.prog.godebug = none := by kernel_rfl
theorem Tryd.laidOut : laidOutB Tryd.prog = true := by kernel_rfl
abbrev laidL : List (String × DataW Unit) := [("unicode/utf8.acceptRanges", Rows.laid_unicode_utf8_acceptRanges), ("unicode/utf8.first", Rows.laid_unicode_utf8_first)]


set_option maxRecDepth 100000 in
theorem f_calls {w : World} {H : Type} {enc : TypeId × Value → H} {r : Reach} {b0 : Nat} {v0 : Value} {d0 : DataW H} {p0 : List MemPlace} {v1 : Value} {d1 : DataW H} {p1 : List MemPlace} (hval0 : Value.okWide Tryd.prog w r b0 22 v0) (h0 : DataW.Trod enc Tryd.prog w 0 (fun _ => true) true 22 v0 d0 p0) (hval1 : Value.okWide Tryd.prog w r b0 9 v1) (h1 : DataW.Trod enc Tryd.prog w 0 (fun _ => true) true 9 v1 d1 p1) :
    Calls Tryd.prog 5 #[v0, v1] w fun e w' => e = .returned (.bool true) ∧ Below w.heap.size w w' := by
  obtain ⟨z0, hz0, hw0⟩ := arg_open (d := 8) (y := (.slice (.pair .str (.pair .bool (.pair (.pair (.pair (.int .i64) (.pair (.int .i64) (.int .i64))) (.pair (.int .i64) (.pair (.int .i64) (.int .i64)))) (.pair (.int .i64) (.pair (.int .i64) (.pair (.int .i64) (.int .i64))))))))) (by kernel_rfl) hval0 h0
  obtain ⟨z1, hz1, hw1⟩ := arg_open (d := 8) (y := .str) (by kernel_rfl) hval1 h1
  refine law_calls (C := C0) so_laws_FnExactFindItem C0_glob (vals := [argVal Tryd.prog 22 (.slice (.pair .str (.pair .bool (.pair (.pair (.pair (.int .i64) (.pair (.int .i64) (.int .i64))) (.pair (.int .i64) (.pair (.int .i64) (.int .i64)))) (.pair (.int .i64) (.pair (.int .i64) (.pair (.int .i64) (.int .i64)))))))) z0, argVal Tryd.prog 9 .str z1]) ⟨v0, [v1], rfl, hz0, ⟨v1, [], rfl, hz1, rfl⟩⟩ (x := true) ?_ rfl
  have hag0 : aggOf Tryd.prog 22 = some false := by kernel_rfl
  have hag1 : aggOf Tryd.prog 9 = some false := by kernel_rfl
  simp only [argVal, hag0, hag1, Option.getD_some]
  exact xParse_vals_true (ax := as_laws_FnExactFindItem) (z := (z0, z1, ())) (by kernel_rfl) ((fun z hw x (_ : (Ty.str).wf x) => law_FindItem z x hw.1 (fun y hy => (hw.2 y hy).1)) z0 hw0 z1 hw1)

set_option maxRecDepth 100000 in
theorem lifted (os : Os) (started : os.Started) (H : Type) (enc : TypeId × Value → H) :
    ReturnsInHanded {} Tryd.checked os 5 .any (fun w args => (Rows.fnExactFindItemSpec.pre enc Tryd.prog Tryd.f5 [] false w args ∧ laidMetH Tryd.prog laidL w) ∧ sizedMet enc Tryd.prog Tryd.f5 (OpenSpec.ofChange Rows.fnExactFindItemSpec) false w args)
      (Rows.fnExactFindItemSpec.post enc Tryd.prog Tryd.f5 false true false false) := by
  refine returnsInHanded_of_change_and (C := Tryd.checked) (X := fun w _ => laidMetH Tryd.prog laidL w) (fun _ _ _ hh h => h.of_heap hh) Tryd.own started (by kernel_rfl) Tryd.func5
    (ChangeSpec.witness_shaped (enc := enc) (C := Tryd.checked) (os := os) (X := fun w _ => laidMetH Tryd.prog laidL w) false (World.laidAll Tryd.prog os laidL) #[.slice none 0 0, .string ⟨#[]⟩] 8 (World.laidAll_os _ _ _) (World.shaped_of_ZipB (by kernel_rfl) (by kernel_rfl)) (by kernel_rfl) (by kernel_rfl) (by kernel_rfl) (by rw [MakeChecks.laidMetH_plain _ _ _ (by kernel_rfl)]; exact laidMet_laidAll _ (by kernel_rfl) (by kernel_rfl))) ?_
  intro W base args ds gs before hval0 hW _ _ _ _
  have hval : ∀ (j : Nat) t v, Tryd.f5.params[j]? = some t → args[j]? = some v → Value.okWide Tryd.prog W .any base t v := hval0
  have hW' := hW
  have hlt := fun p hp => hW.lt p hp
  obtain ⟨p, q, hA0, hV, rfl, hfz, hnd⟩ := hW
  have hA : DataW.TrodAll enc Tryd.prog W 0 (fun _ => true) true Tryd.f5.params.toList args.toList ds p := hA0
  have hV : DataW.TrodVars enc Tryd.prog W (fun _ => true) [] gs q := hV
  rw [Tryd.params5] at hA hval
  obtain ⟨v0, v1, d0, d1, p0, p1, rfl, rfl, rfl, h0, h1⟩ := trodAll_two hA
  have hv0 := hval 0 _ v0 rfl rfl
  have hv1 := hval 1 _ v1 rfl rfl
  clear hA0 hval0
  obtain ⟨rfl, rfl⟩ := trodVars_none hV
  simp only [List.append_nil] at hW' hlt
  refine (f_calls hv0 h0 hv1 h1).mono fun e W' ⟨he, hb⟩ => ?_
  subst he
  have hT : DataW.TrodAll enc Tryd.prog W' 0 (fun b => decide (b < W.heap.size)) true [22, 9] [v0, v1] [d0, d1] (p0 ++ p1) := by
    exact trodAll_mk2 (Below.trod Tryd.laidOut (by kernel_rfl) (of_decide_eq_true (by kernel_rfl)) h0 hb (fun x hx => hlt x (List.mem_append_left _ hx))) (Below.trod Tryd.laidOut (by kernel_rfl) (of_decide_eq_true (by kernel_rfl)) h1 hb (fun x hx => hlt x (List.mem_append_right _ hx)))
  exact ⟨_, rfl, [d0, d1], [], (p0 ++ p1), [], (p0 ++ p1), [], hW', trodAll_mk1 (shut_bool (by kernel_rfl) true), hT, rfl, hb.frame _, fun h => by cases h⟩

theorem row_holds : Rows.FnExactFindItemSaid :=
  OpenClaim.holds_of_wide 5 Tryd.f5 rfl rfl rfl rfl rfl rfl rfl ⟨rfl, rfl, rfl, rfl, rfl⟩ rfl rfl rfl rfl rfl (by kernel_rfl) Tryd.func5 (by kernel_rfl)
    (of_decide_eq_true (by kernel_rfl)) (by unfold Func.isWrapper; first | (rw [if_pos (by decide +kernel)]; kernel_rfl) | (rw [if_neg (by decide +kernel)]; exact ⟨rfl, rfl⟩))
    (fun os started H enc _ => lifted os started H enc)

theorem findItem_holds : Rows.FnExactFindItemCardSaid :=
  Claim7.holds_tied_plain_at .later [] [.data, .pinned] true (true, "324db13ecccdfac483e05e065876ba90583797c1c7bd9926a61deb09269fb5d6") false
    row_holds (fun _ h => by cases h) (by kernel_rfl) (fun _ h => by cases h) fnExactFindItem_row_tie rfl ⟨rfl, rfl⟩ (by kernel_rfl) rfl
    (fun f fn hf hfn => by
      obtain rfl : f = 5 := Option.some.inj ((show Tryd.prog.funcNamed "loop.example/g00857/laws.FnExactFindItem" = some 5 by kernel_rfl).symm.trans hf) |>.symm
      obtain rfl : fn = Tryd.f5 := (Option.some.inj (Tryd.func5.symm.trans hfn)).symm
      exact ⟨by kernel_rfl, fun j t ht => by
        rw [Tryd.params5] at ht
        have hm : t ∈ [22, 9] := by simpa using Array.mem_of_getElem? ht
        have hall : ([22, 9].all fun u => !Tryd.prog.wantsStandIn u) = true := by kernel_rfl
        exact (show Tryd.prog.wantsStandIn t = false by simpa using List.all_eq_true.1 hall t hm)⟩)
    (by kernel_rfl)
end Go.Proofs.YtjkljnflaifbhaaDoor
