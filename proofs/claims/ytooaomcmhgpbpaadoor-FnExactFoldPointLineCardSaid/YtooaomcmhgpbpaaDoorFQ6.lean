/- What is proved: the law FnExactFoldPointLine returns true at every input and leaves it as it was, where impl.vectors holds what the program's text lays in it; the card ties that to the text. No other conditions. -/
import Derived.Test.YtooaomcmhgpbpaaDoorFQ5
import Derived.Test.YtooaomcmhgpbpaaDoorVaiG
import Derived.Test.YtooaomcmhgpbpaaDoorTie
import Derived.Test.YtooaomcmhgpbpaaDoorCards
import Derived.LaidMore
import Derived.Stop.Joined
import Derived.SevenTiedAt
namespace Go.Proofs.YtooaomcmhgpbpaaDoor
open Go.ChangeShapes Go.WideShapes Go.ChangeAt Go.RowKit Go.Vai

theorem Tryd.own : ownKnob Tryd.prog.godebug = none := by kernel_rfl
theorem Tryd.laidOut : laidOutB Tryd.prog = true := by kernel_rfl
theorem gVec : Tryd.prog.globalNamed "loop.example/g00857/impl.vectors" = some 0 := by kernel_rfl
theorem tVec : (Tryd.prog.globals[0]?).map (·.type) = some 156 := by kernel_rfl

abbrev laidL : List (String × DataW Unit) := [("loop.example/g00857/impl.vectors", Rows.laid_loop_example_g00857_impl_vectors)]

theorem door_met (os : Os) (args : Array Value) : laidMetH Tryd.prog laidL ((World.doorLaid Tryd.prog 400 os).forCall (fun _ _ => 0) ⟨#[], args, []⟩).memory := by
  rw [MakeChecks.laidMetH_plain _ _ _ (by kernel_rfl)]
  exact laidMet_of_run' 8 (by kernel_rfl) (by kernel_rfl)

theorem glob_ok {W : World} (h : laidMetH Tryd.prog laidL W) : ∀ k cs, C0.glob k = some cs → ∃ vs e fz, W.heap[k]? = some (.cells vs e fz) ∧ cs = vs.toList.map .v := by
  rw [MakeChecks.laidMetH_plain _ _ _ (by kernel_rfl)] at h
  obtain ⟨vs, e, fz, h1, h2⟩ := glob_of_laid (d := 8) (y := .pair (.pair (.int .i64) (.pair (.int .i64) (.int .i64))) (.pair (.int .i64) (.pair (.int .i64) (.int .i64)))) (n := 8) gVec tVec Tryd.underlying156 (by kernel_rfl) rfl (by kernel_rfl) h
  intro k cs hk
  cases k with
  | zero =>
    have hk' : some (vecCells.map fun n => CV.v (.int .i64 n)) = some cs := hk
    cases hk'
    refine ⟨vs, e, fz, h1, ?_⟩
    rw [h2]
    kernel_rfl
  | succ k =>
    have hk' : (none : Option (List CV)) = some cs := hk
    cases hk'

set_option maxRecDepth 100000 in
theorem f_calls {w : World} (hL : laidMetH Tryd.prog laidL w) {H : Type} {enc : TypeId × Value → H} {r : Reach} {b0 : Nat} {v0 : Value} {d0 : DataW H} {p0 : List MemPlace} {v1 : Value} {d1 : DataW H} {p1 : List MemPlace} {v2 : Value} {d2 : DataW H} {p2 : List MemPlace} (hval0 : Value.okWide Tryd.prog w r b0 31 v0) (h0 : DataW.Trod enc Tryd.prog w 0 (fun _ => true) true 31 v0 d0 p0) (hval1 : Value.okWide Tryd.prog w r b0 33 v1) (h1 : DataW.Trod enc Tryd.prog w 0 (fun _ => true) true 33 v1 d1 p1) (hval2 : Value.okWide Tryd.prog w r b0 31 v2) (h2 : DataW.Trod enc Tryd.prog w 0 (fun _ => true) true 31 v2 d2 p2) :
    Calls Tryd.prog 5 #[v0, v1, v2] w fun e w' => e = .returned (.bool true) ∧ Below w.heap.size w w' := by
  obtain ⟨z0, hz0, hw0⟩ := arg_open (d := 8) (y := (.pair (.pair (.int .i64) (.pair (.int .i64) (.int .i64))) (.pair (.int .i64) (.pair (.int .i64) (.int .i64))))) (by kernel_rfl) hval0 h0
  obtain ⟨z1, hz1, hw1⟩ := arg_open (d := 8) (y := (.pair (.int .i64) (.pair (.int .i64) (.pair (.int .i64) (.int .i64))))) (by kernel_rfl) hval1 h1
  obtain ⟨z2, hz2, hw2⟩ := arg_open (d := 8) (y := (.pair (.pair (.int .i64) (.pair (.int .i64) (.int .i64))) (.pair (.int .i64) (.pair (.int .i64) (.int .i64))))) (by kernel_rfl) hval2 h2
  refine law_calls_glob (C := C0) so_laws_FnExactFoldPointLine (glob_ok hL) (vals := [argVal Tryd.prog 31 (.pair (.pair (.int .i64) (.pair (.int .i64) (.int .i64))) (.pair (.int .i64) (.pair (.int .i64) (.int .i64)))) z0, argVal Tryd.prog 33 (.pair (.int .i64) (.pair (.int .i64) (.pair (.int .i64) (.int .i64)))) z1, argVal Tryd.prog 31 (.pair (.pair (.int .i64) (.pair (.int .i64) (.int .i64))) (.pair (.int .i64) (.pair (.int .i64) (.int .i64)))) z2]) ⟨v0, [v1, v2], rfl, hz0, ⟨v1, [v2], rfl, hz1, ⟨v2, [], rfl, hz2, rfl⟩⟩⟩ (x := true) ?_ rfl
  have hag0 : aggOf Tryd.prog 31 = some true := by kernel_rfl
  have hag1 : aggOf Tryd.prog 33 = some true := by kernel_rfl
  simp only [argVal, hag0, hag1, Option.getD_some]
  exact xParse_vals_true (ax := as_laws_FnExactFoldPointLine) (z := (z0, z1, z2, ())) (by kernel_rfl) ((fun p _ l _ q _ => law_FoldPointLine p l q) z0 hw0 z1 hw1 z2 hw2)

set_option maxRecDepth 100000 in
theorem lifted (os : Os) (started : os.Started) (H : Type) (enc : TypeId × Value → H) :
    ReturnsInHanded {} Tryd.checked os 5 .any (fun w args => (Rows.fnExactFoldPointLineSpec.pre enc Tryd.prog Tryd.f5 [] false w args ∧ laidMetH Tryd.prog laidL w) ∧ sizedMet enc Tryd.prog Tryd.f5 (OpenSpec.ofChange Rows.fnExactFoldPointLineSpec) false w args)
      (Rows.fnExactFoldPointLineSpec.post enc Tryd.prog Tryd.f5 false true false false) := by
  refine returnsInHanded_of_change_and (C := Tryd.checked) (X := fun w _ => laidMetH Tryd.prog laidL w) (fun _ _ _ hh h => h.of_heap hh) Tryd.own started (by kernel_rfl) Tryd.func5
    (ChangeSpec.witness_shaped (enc := enc) (C := Tryd.checked) (os := os) (X := fun w _ => laidMetH Tryd.prog laidL w) false (World.doorLaid Tryd.prog 400 os) #[.agg #[.int .i64 0, .int .i64 0, .int .i64 0, .int .i64 0, .int .i64 0, .int .i64 0], .agg #[.int .i64 0, .int .i64 0, .int .i64 0, .int .i64 0], .agg #[.int .i64 0, .int .i64 0, .int .i64 0, .int .i64 0, .int .i64 0, .int .i64 0]] 8 rfl (World.shaped_of_RefB (by kernel_rfl) (by kernel_rfl)) (by kernel_rfl) (by kernel_rfl) (by kernel_rfl) (door_met os _)) ?_
  intro W base args ds gs before hval0 hW _ _ hL _
  have hval : ∀ (j : Nat) t v, Tryd.f5.params[j]? = some t → args[j]? = some v → Value.okWide Tryd.prog W .any base t v := hval0
  have hW' := hW
  have hlt := fun p hp => hW.lt p hp
  obtain ⟨p, q, hA0, hV, rfl, hfz, hnd⟩ := hW
  have hA : DataW.TrodAll enc Tryd.prog W 0 (fun _ => true) true Tryd.f5.params.toList args.toList ds p := hA0
  have hV : DataW.TrodVars enc Tryd.prog W (fun _ => true) ["loop.example/g00857/impl.vectors"] gs q := hV
  rw [Tryd.params5] at hA hval
  obtain ⟨v0, v1, v2, d0, d1, d2, p0, p1, p2, rfl, rfl, rfl, h0, h1, h2⟩ := trodAll_three hA
  have hv0 := hval 0 _ v0 rfl rfl
  have hv1 := hval 1 _ v1 rfl rfl
  have hv2 := hval 2 _ v2 rfl rfl
  clear hA0 hval0
  obtain ⟨g1, rfl⟩ : ∃ g, gs = [g] := by
    cases gs with
    | nil => cases hV
    | cons g r => cases r with
      | nil => exact ⟨g, rfl⟩
      | cons _ _ =>
        obtain ⟨_, _, _, _, _, _, _, _, _, _, h, _⟩ := hV
        cases h
  refine (f_calls hL hv0 h0 hv1 h1 hv2 h2).mono fun e W' ⟨he, hb⟩ => ?_
  subst he
  have hT : DataW.TrodAll enc Tryd.prog W' 0 (fun b => decide (b < W.heap.size)) true [31, 33, 31] [v0, v1, v2] [d0, d1, d2] (p0 ++ p1 ++ p2) := by
    simpa only [List.append_assoc] using trodAll_mk3 (Below.trod Tryd.laidOut (by kernel_rfl) (of_decide_eq_true (by kernel_rfl)) h0 hb (fun x hx => hlt x (List.mem_append_left _ (List.mem_append_left _ (List.mem_append_left _ hx))))) (Below.trod Tryd.laidOut (by kernel_rfl) (of_decide_eq_true (by kernel_rfl)) h1 hb (fun x hx => hlt x (List.mem_append_left _ (List.mem_append_left _ (List.mem_append_right _ hx))))) (Below.trod Tryd.laidOut (by kernel_rfl) (of_decide_eq_true (by kernel_rfl)) h2 hb (fun x hx => hlt x (List.mem_append_left _ (List.mem_append_right _ hx))))
  have hG : DataW.TrodVars enc Tryd.prog W' (fun b => decide (b < W.heap.size)) ["loop.example/g00857/impl.vectors"] [g1] q :=
    vars_stay gVec tVec Tryd.laidOut (by kernel_rfl) (of_decide_eq_true (by kernel_rfl)) hV hb (fun x hx => hlt x (List.mem_append_right _ hx))
  exact ⟨_, rfl, [d0, d1, d2], [g1], (p0 ++ p1 ++ p2) ++ q, [], (p0 ++ p1 ++ p2), q, hW', trodAll_mk1 (shut_bool (by kernel_rfl) true), hT, hG, hb.frame _, fun h => by cases h⟩

theorem row_holds : Rows.FnExactFoldPointLineSaid :=
  OpenClaim.holds_of_wide 5 Tryd.f5 rfl rfl rfl rfl rfl rfl rfl ⟨rfl, rfl, rfl, rfl, rfl⟩ rfl rfl rfl rfl rfl (by kernel_rfl) Tryd.func5 (by kernel_rfl)
    (of_decide_eq_true (by kernel_rfl)) (by unfold Func.isWrapper; first | (rw [if_pos (by decide +kernel)]; kernel_rfl) | (rw [if_neg (by decide +kernel)]; exact ⟨rfl, rfl⟩))
    (fun os started H enc _ => lifted os started H enc)

theorem foldPointLine_holds : Rows.FnExactFoldPointLineCardSaid :=
  Claim7.holds_tied_plain_at .later [] [.data] true (true, "f1fca13b0e6f44d6c30530ffdc44dd755424cd273c18b7d2096c63ec041b0747") false
    row_holds (fun _ h => by cases h) (by kernel_rfl) (fun _ h => by cases h) fnExactFoldPointLine_row_tie rfl ⟨rfl, rfl⟩ (by kernel_rfl) rfl
    (fun f fn hf hfn => by
      obtain rfl : f = 5 := Option.some.inj ((show Tryd.prog.funcNamed "loop.example/g00857/laws.FnExactFoldPointLine" = some 5 by kernel_rfl).symm.trans hf) |>.symm
      obtain rfl : fn = Tryd.f5 := (Option.some.inj (Tryd.func5.symm.trans hfn)).symm
      exact ⟨by kernel_rfl, fun j t ht => by
        rw [Tryd.params5] at ht
        have hm : t ∈ [31, 33, 31] := by simpa using Array.mem_of_getElem? ht
        have hall : ([31, 33, 31].all fun u => !Tryd.prog.wantsStandIn u) = true := by kernel_rfl
        exact (show Tryd.prog.wantsStandIn t = false by simpa using List.all_eq_true.1 hall t hm)⟩)
    (by kernel_rfl)
end Go.Proofs.YtooaomcmhgpbpaaDoor
