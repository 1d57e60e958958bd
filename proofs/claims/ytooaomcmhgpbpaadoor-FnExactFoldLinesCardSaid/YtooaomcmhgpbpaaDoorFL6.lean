/- What is proved: the law FnExactFoldLines returns true at every input and leaves it as it was, where impl.vectors holds what the program's text lays in it; the card ties that to the text. No other conditions. -/
import Derived.Test.YtooaomcmhgpbpaaDoorFL5
import Derived.Test.YtooaomcmhgpbpaaDoorVaiG
import Derived.Test.YtooaomcmhgpbpaaDoorTie
import Derived.Test.YtooaomcmhgpbpaaDoorCards
import Derived.LaidMore
import Derived.Stop.Joined
import Derived.SevenTiedAt
namespace Go.Proofs.YtooaomcmhgpbpaaDoor
open Go.ChangeShapes Go.WideShapes Go.ChangeAt Go.RowKit Go.Vai

theorem Tryd.own : ownKnob Tryd.prog.godebug = none := by kernel_rfl
theorem Tryd.laidOut : laidOutB Tryd.prog = true := by kernel_rfl
theorem gVec : Tryd.prog.globalNamed "loop.example/g00857/impl.vectors" = some 0 := by kernel_rfl
theorem tVec : (Tryd.prog.globals[0]?).map (·.type) = some 156 := by kernel_rfl

abbrev laidL : List (String × DataW Unit) := [("loop.example/g00857/impl.vectors", Rows.laid_loop_example_g00857_impl_vectors)]

theorem door_met (os : Os) (args : Array Value) : laidMetH Tryd.prog laidL ((World.doorLaid Tryd.prog 400 os).forCall (fun _ _ => 0) ⟨#[], args, []⟩).memory := by
  rw [MakeChecks.laidMetH_plain _ _ _ (by kernel_rfl)]
  exact laidMet_of_run' 8 (by kernel_rfl) (by kernel_rfl)

theorem glob_ok {W : World} (h : laidMetH Tryd.prog laidL W) : ∀ k cs, C0.glob k = some cs → ∃ vs e fz, W.heap[k]? = some (.cells vs e fz) ∧ cs = vs.toList.map .v := by
  rw [MakeChecks.laidMetH_plain _ _ _ (by kernel_rfl)] at h
  obtain ⟨vs, e, fz, h1, h2⟩ := glob_of_laid (d := 8) (y := .pair (.pair (.int .i64) (.pair (.int .i64) (.int .i64))) (.pair (.int .i64) (.pair (.int .i64) (.int .i64)))) (n := 8) gVec tVec Tryd.underlying156 (by kernel_rfl) rfl (by kernel_rfl) h
  intro k cs hk
  cases k with
  | zero =>
    have hk' : some (vecCells.map fun n => CV.v (.int .i64 n)) = some cs := hk
    cases hk'
    refine ⟨vs, e, fz, h1, ?_⟩
    rw [h2]
    kernel_rfl
  | succ k =>
    have hk' : (none : Option (List CV)) = some cs := hk
    cases hk'

set_option maxRecDepth 100000 in
theorem f_calls {w : World} (hL : laidMetH Tryd.prog laidL w) {H : Type} {enc : TypeId × Value → H} {r : Reach} {b0 : Nat} {v0 : Value} {d0 : DataW H} {p0 : List MemPlace} {v1 : Value} {d1 : DataW H} {p1 : List MemPlace} (hval0 : Value.okWide Tryd.prog w r b0 33 v0) (h0 : DataW.Trod enc Tryd.prog w 0 (fun _ => true) true 33 v0 d0 p0) (hval1 : Value.okWide Tryd.prog w r b0 33 v1) (h1 : DataW.Trod enc Tryd.prog w 0 (fun _ => true) true 33 v1 d1 p1) :
    Calls Tryd.prog 6 #[v0, v1] w fun e w' => e = .returned (.bool true) ∧ Below w.heap.size w w' := by
  obtain ⟨z0, hz0, hw0⟩ := arg_open (d := 8) (y := (.pair (.int .i64) (.pair (.int .i64) (.pair (.int .i64) (.int .i64))))) (by kernel_rfl) hval0 h0
  obtain ⟨z1, hz1, hw1⟩ := arg_open (d := 8) (y := (.pair (.int .i64) (.pair (.int .i64) (.pair (.int .i64) (.int .i64))))) (by kernel_rfl) hval1 h1
  refine law_calls_glob (C := C0) so_laws_FnExactFoldLines (glob_ok hL) (vals := [argVal Tryd.prog 33 (.pair (.int .i64) (.pair (.int .i64) (.pair (.int .i64) (.int .i64)))) z0, argVal Tryd.prog 33 (.pair (.int .i64) (.pair (.int .i64) (.pair (.int .i64) (.int .i64)))) z1]) ⟨v0, [v1], rfl, hz0, ⟨v1, [], rfl, hz1, rfl⟩⟩ (x := true) ?_ rfl
  have hag0 : aggOf Tryd.prog 33 = some true := by kernel_rfl
  simp only [argVal, hag0, Option.getD_some]
  exact xParse_vals_true (ax := as_laws_FnExactFoldLines) (z := (z0, z1, ())) (by kernel_rfl) ((fun l _ m _ => law_FoldLines l m) z0 hw0 z1 hw1)

set_option maxRecDepth 100000 in
theorem lifted (os : Os) (started : os.Started) (H : Type) (enc : TypeId × Value → H) :
    ReturnsInHanded {} Tryd.checked os 6 .any (fun w args => (Rows.fnExactFoldLinesSpec.pre enc Tryd.prog Tryd.f6 [] false w args ∧ laidMetH Tryd.prog laidL w) ∧ sizedMet enc Tryd.prog Tryd.f6 (OpenSpec.ofChange Rows.fnExactFoldLinesSpec) false w args)
      (Rows.fnExactFoldLinesSpec.post enc Tryd.prog Tryd.f6 false true false false) := by
  refine returnsInHanded_of_change_and (C := Tryd.checked) (X := fun w _ => laidMetH Tryd.prog laidL w) (fun _ _ _ hh h => h.of_heap hh) Tryd.own started (by kernel_rfl) Tryd.func6
    (ChangeSpec.witness_shaped (enc := enc) (C := Tryd.checked) (os := os) (X := fun w _ => laidMetH Tryd.prog laidL w) false (World.doorLaid Tryd.prog 400 os) #[.agg #[.int .i64 0, .int .i64 0, .int .i64 0, .int .i64 0], .agg #[.int .i64 0, .int .i64 0, .int .i64 0, .int .i64 0]] 8 rfl (World.shaped_of_RefB (by kernel_rfl) (by kernel_rfl)) (by kernel_rfl) (by kernel_rfl) (by kernel_rfl) (door_met os _)) ?_
  intro W base args ds gs before hval0 hW _ _ hL _
  have hval : ∀ (j : Nat) t v, Tryd.f6.params[j]? = some t → args[j]? = some v → Value.okWide Tryd.prog W .any base t v := hval0
  have hW' := hW
  have hlt := fun p hp => hW.lt p hp
  obtain ⟨p, q, hA0, hV, rfl, hfz, hnd⟩ := hW
  have hA : DataW.TrodAll enc Tryd.prog W 0 (fun _ => true) true Tryd.f6.params.toList args.toList ds p := hA0
  have hV : DataW.TrodVars enc Tryd.prog W (fun _ => true) ["loop.example/g00857/impl.vectors"] gs q := hV
  rw [Tryd.params6] at hA hval
  obtain ⟨v0, v1, d0, d1, p0, p1, rfl, rfl, rfl, h0, h1⟩ := trodAll_two hA
  have hv0 := hval 0 _ v0 rfl rfl
  have hv1 := hval 1 _ v1 rfl rfl
  clear hA0 hval0
  obtain ⟨g1, rfl⟩ : ∃ g, gs = [g] := by
    cases gs with
    | nil => cases hV
    | cons g r => cases r with
      | nil => exact ⟨g, rfl⟩
      | cons _ _ =>
        obtain ⟨_, _, _, _, _, _, _, _, _, _, h, _⟩ := hV
        cases h
  refine (f_calls hL hv0 h0 hv1 h1).mono fun e W' ⟨he, hb⟩ => ?_
  subst he
  have hT : DataW.TrodAll enc Tryd.prog W' 0 (fun b => decide (b < W.heap.size)) true [33, 33] [v0, v1] [d0, d1] (p0 ++ p1) := by
    exact trodAll_mk2 (Below.trod Tryd.laidOut (by kernel_rfl) (of_decide_eq_true (by kernel_rfl)) h0 hb (fun x hx => hlt x (List.mem_append_left _ (List.mem_append_left _ hx)))) (Below.trod Tryd.laidOut (by kernel_rfl) (of_decide_eq_true (by kernel_rfl)) h1 hb (fun x hx => hlt x (List.mem_append_left _ (List.mem_append_right _ hx))))
  have hG : DataW.TrodVars enc Tryd.prog W' (fun b => decide (b < W.heap.size)) ["loop.example/g00857/impl.vectors"] [g1] q :=
    vars_stay gVec tVec Tryd.laidOut (by kernel_rfl) (of_decide_eq_true (by kernel_rfl)) hV hb (fun x hx => hlt x (List.mem_append_right _ hx))
  exact ⟨_, rfl, [d0, d1], [g1], (p0 ++ p1) ++ q, [], (p0 ++ p1), q, hW', trodAll_mk1 (shut_bool (by kernel_rfl) true), hT, hG, hb.frame _, fun h => by cases h⟩

theorem row_holds : Rows.FnExactFoldLinesSaid :=
  OpenClaim.holds_of_wide 6 Tryd.f6 rfl rfl rfl rfl rfl rfl rfl ⟨rfl, rfl, rfl, rfl, rfl⟩ rfl rfl rfl rfl rfl (by kernel_rfl) Tryd.func6 (by kernel_rfl)
    (of_decide_eq_true (by kernel_rfl)) (by unfold Func.isWrapper; first | (rw [if_pos (by decide +kernel)]; kernel_rfl) | (rw [if_neg (by decide +kernel)]; exact ⟨rfl, rfl⟩))
    (fun os started H enc _ => lifted os started H enc)

theorem foldLines_holds : Rows.FnExactFoldLinesCardSaid :=
  Claim7.holds_tied_plain_at .later [] [.data] true (true, "f1fca13b0e6f44d6c30530ffdc44dd755424cd273c18b7d2096c63ec041b0747") false
    row_holds (fun _ h => by cases h) (by kernel_rfl) (fun _ h => by cases h) fnExactFoldLines_row_tie rfl ⟨rfl, rfl⟩ (by kernel_rfl) rfl
    (fun f fn hf hfn => by
      obtain rfl : f = 6 := Option.some.inj ((show Tryd.prog.funcNamed "loop.example/g00857/laws.FnExactFoldLines" = some 6 by kernel_rfl).symm.trans hf) |>.symm
      obtain rfl : fn = Tryd.f6 := (Option.some.inj (Tryd.func6.symm.trans hfn)).symm
      exact ⟨by kernel_rfl, fun j t ht => by
        rw [Tryd.params6] at ht
        have hm : t ∈ [33, 33] := by simpa using Array.mem_of_getElem? ht
        have hall : ([33, 33].all fun u => !Tryd.prog.wantsStandIn u) = true := by kernel_rfl
        exact (show Tryd.prog.wantsStandIn t = false by simpa using List.all_eq_true.1 hall t hm)⟩)
    (by kernel_rfl)
end Go.Proofs.YtooaomcmhgpbpaaDoor
