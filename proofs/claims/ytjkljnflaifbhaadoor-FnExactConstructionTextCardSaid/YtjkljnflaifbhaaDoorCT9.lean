/- What is proved: the law FnExactConstructionText returns true at every input and leaves it as it was, where the listed variables hold what the program's text lays in them; the card ties that to the text. No other conditions. -/
import Derived.Test.YtjkljnflaifbhaaDoorCT8
import Derived.Test.YtjkljnflaifbhaaDoorVaiG
import Derived.Test.YtjkljnflaifbhaaDoorTie
import Derived.Test.YtjkljnflaifbhaaDoorCards
import Derived.LaidMore
import Derived.Lay
import Derived.Stop.Joined
import Derived.SevenTiedAt
namespace Go.Proofs.YtjkljnflaifbhaaDoor
open Go.ChangeShapes Go.WideShapes Go.ChangeAt Go.RowKit Go.Vai

theorem Tryd.own : ownKnob Tryd.prog.godebug = none := by kernel_rfl
theorem Tryd.laidOut : laidOutB Tryd.prog = true := by kernel_rfl
theorem gVec0 : Tryd.prog.globalNamed "loop.example/g00857/impl.constructs" = some 0 := by kernel_rfl
theorem tVec0 : (Tryd.prog.globals[0]?).map (·.type) = some 92 := by kernel_rfl
theorem gVec1 : Tryd.prog.globalNamed "internal/strconv.uint64pow10" = some 5 := by kernel_rfl
theorem tVec1 : (Tryd.prog.globals[5]?).map (·.type) = some 230 := by kernel_rfl

abbrev laidL : List (String × DataW Unit) := [("math/bits.deBruijn32tab", Rows.laid_math_bits_deBruijn32tab), ("math/bits.deBruijn64tab", Rows.laid_math_bits_deBruijn64tab), ("internal/strconv.uint64pow10", Rows.laid_internal_strconv_uint64pow10), ("unicode/utf8.acceptRanges", Rows.laid_unicode_utf8_acceptRanges), ("loop.example/g00857/impl.constructs", Rows.laid_loop_example_g00857_impl_constructs), ("unicode/utf8.first", Rows.laid_unicode_utf8_first)]

theorem glob_ok {W : World} (h : laidMetH Tryd.prog laidL W) : ∀ k cs, C0.glob k = some cs → ∃ vs e fz, W.heap[k]? = some (.cells vs e fz) ∧ cs = vs.toList.map .v := by
  rw [MakeChecks.laidMetH_plain _ _ _ (by kernel_rfl)] at h
  obtain ⟨vs0, e0, fz0, h10, h20⟩ := glob_at (d := 8) (y := (.pair .str (.pair .str .bool))) (n := 13) 4 rfl gVec0 tVec0 Tryd.underlying92 (by kernel_rfl) rfl (by kernel_rfl) h
  obtain ⟨vs1, e1, fz1, h11, h21⟩ := glob_at (d := 8) (y := (.int .u64)) (n := 20) 2 rfl gVec1 tVec1 Tryd.underlying230 (by kernel_rfl) rfl (by kernel_rfl) h
  intro k cs hk
  have hk' : C0.glob k = some cs := hk
  by_cases hk0 : k = 0
  · subst hk0
    have hk2 : some (conCells.map CV.v) = some cs := hk'
    cases hk2
    refine ⟨vs0, e0, fz0, h10, ?_⟩
    rw [h20]
    kernel_rfl
  · 
    by_cases hk1 : k = 5
    · subst hk1
      have hk2 : some (powCells.map CV.v) = some cs := hk'
      cases hk2
      refine ⟨vs1, e1, fz1, h11, ?_⟩
      rw [h21]
      kernel_rfl
    · have hk2 : C0.glob k = none := glob_else hk0 hk1
      rw [hk2] at hk'
      cases hk'


set_option maxRecDepth 100000 in
theorem f_calls {w : World} (hL : laidMetH Tryd.prog laidL w) {H : Type} {enc : TypeId × Value → H} {r : Reach} {b0 : Nat} {v0 : Value} {d0 : DataW H} {p0 : List MemPlace} (hval0 : Value.okWide Tryd.prog w r b0 37 v0) (h0 : DataW.Trod enc Tryd.prog w 0 (fun _ => true) true 37 v0 d0 p0) :
    Calls Tryd.prog 6 #[v0] w fun e w' => e = .returned (.bool true) ∧ Below w.heap.size w w' := by
  obtain ⟨z0, hz0, hw0⟩ := arg_open (d := 8) (y := (.pair .str (.pair (.int .i64) (.pair (.slice .str) (.pair (.int .i64) (.pair (.pair (.pair (.int .i64) (.pair (.int .i64) (.int .i64))) (.pair (.int .i64) (.pair (.int .i64) (.int .i64)))) (.pair (.int .i64) (.pair (.int .i64) (.pair (.int .i64) (.int .i64)))))))))) (by kernel_rfl) hval0 h0
  refine law_calls_glob (C := C0) so_laws_FnExactConstructionText (glob_ok hL) (vals := [argVal Tryd.prog 37 (.pair .str (.pair (.int .i64) (.pair (.slice .str) (.pair (.int .i64) (.pair (.pair (.pair (.int .i64) (.pair (.int .i64) (.int .i64))) (.pair (.int .i64) (.pair (.int .i64) (.int .i64)))) (.pair (.int .i64) (.pair (.int .i64) (.pair (.int .i64) (.int .i64))))))))) z0]) ⟨v0, [], rfl, hz0, rfl⟩ (x := true) ?_ rfl
  have hag0 : aggOf Tryd.prog 37 = some true := by kernel_rfl
  simp only [argVal, hag0, Option.getD_some]
  exact xParse_vals_true (ax := as_laws_FnExactConstructionText) (z := (z0, ())) (by kernel_rfl) ((fun z hw => law_ConstructionText z hw.1 hw.2.2.1.1 hw.2.2.1.2) z0 hw0)

set_option maxRecDepth 100000 in
theorem lifted (os : Os) (started : os.Started) (H : Type) (enc : TypeId × Value → H) :
    ReturnsInHanded {} Tryd.checked os 6 .any (fun w args => (Rows.fnExactConstructionTextSpec.pre enc Tryd.prog Tryd.f6 [] false w args ∧ laidMetH Tryd.prog laidL w) ∧ sizedMet enc Tryd.prog Tryd.f6 (OpenSpec.ofChange Rows.fnExactConstructionTextSpec) false w args)
      (Rows.fnExactConstructionTextSpec.post enc Tryd.prog Tryd.f6 false true false false) := by
  refine returnsInHanded_of_change_and (C := Tryd.checked) (X := fun w _ => laidMetH Tryd.prog laidL w) (fun _ _ _ hh h => h.of_heap hh) Tryd.own started (by kernel_rfl) Tryd.func6
    (ChangeSpec.witness_shaped (enc := enc) (C := Tryd.checked) (os := os) (X := fun w _ => laidMetH Tryd.prog laidL w) false (World.laidAll Tryd.prog os laidL) #[.agg #[.string ⟨#[]⟩, .int .i64 0, .slice none 0 0, .int .i64 0, .int .i64 0, .int .i64 0, .int .i64 0, .int .i64 0, .int .i64 0, .int .i64 0, .int .i64 0, .int .i64 0, .int .i64 0, .int .i64 0]] 8 (World.laidAll_os _ _ _) (World.shaped_of_ZipB (by kernel_rfl) (by kernel_rfl)) (by kernel_rfl) (by kernel_rfl) (by kernel_rfl) (by rw [MakeChecks.laidMetH_plain _ _ _ (by kernel_rfl)]; exact laidMet_laidAll _ (by kernel_rfl) (by kernel_rfl))) ?_
  intro W base args ds gs before hval0 hW _ _ hL _
  have hval : ∀ (j : Nat) t v, Tryd.f6.params[j]? = some t → args[j]? = some v → Value.okWide Tryd.prog W .any base t v := hval0
  have hW' := hW
  have hlt := fun p hp => hW.lt p hp
  obtain ⟨p, q, hA0, hV, rfl, hfz, hnd⟩ := hW
  have hA : DataW.TrodAll enc Tryd.prog W 0 (fun _ => true) true Tryd.f6.params.toList args.toList ds p := hA0
  have hV : DataW.TrodVars enc Tryd.prog W (fun _ => true) ["loop.example/g00857/impl.constructs"] gs q := hV
  rw [Tryd.params6] at hA hval
  obtain ⟨v0, d0, rfl, rfl, h0⟩ := trodAll_one hA
  have hv0 := hval 0 _ v0 rfl rfl
  clear hA0 hval0
  obtain ⟨g1, rfl⟩ : ∃ g, gs = [g] := by
    cases gs with
    | nil => cases hV
    | cons g r => cases r with
      | nil => exact ⟨g, rfl⟩
      | cons _ _ =>
        obtain ⟨_, _, _, _, _, _, _, _, _, _, h, _⟩ := hV
        cases h
  refine (f_calls hL hv0 h0).mono fun e W' ⟨he, hb⟩ => ?_
  subst he
  have hT : DataW.TrodAll enc Tryd.prog W' 0 (fun b => decide (b < W.heap.size)) true [37] [v0] [d0] p := by
    exact trodAll_mk1 (Below.trod Tryd.laidOut (by kernel_rfl) (of_decide_eq_true (by kernel_rfl)) h0 hb (fun x hx => hlt x (List.mem_append_left _ hx)))
  have hG : DataW.TrodVars enc Tryd.prog W' (fun b => decide (b < W.heap.size)) ["loop.example/g00857/impl.constructs"] [g1] q :=
    vars_stay gVec0 tVec0 Tryd.laidOut (by kernel_rfl) (of_decide_eq_true (by kernel_rfl)) hV hb (fun x hx => hlt x (List.mem_append_right _ hx))
  exact ⟨_, rfl, [d0], [g1], p ++ q, [], p, q, hW', trodAll_mk1 (shut_bool (by kernel_rfl) true), hT, hG, hb.frame _, fun h => by cases h⟩

theorem row_holds : Rows.FnExactConstructionTextSaid :=
  OpenClaim.holds_of_wide 6 Tryd.f6 rfl rfl rfl rfl rfl rfl rfl ⟨rfl, rfl, rfl, rfl, rfl⟩ rfl rfl rfl rfl rfl (by kernel_rfl) Tryd.func6 (by kernel_rfl)
    (of_decide_eq_true (by kernel_rfl)) (by unfold Func.isWrapper; first | (rw [if_pos (by decide +kernel)]; kernel_rfl) | (rw [if_neg (by decide +kernel)]; exact ⟨rfl, rfl⟩))
    (fun os started H enc _ => lifted os started H enc)

theorem constructionText_holds : Rows.FnExactConstructionTextCardSaid :=
  Claim7.holds_tied_plain_at .later [] [.data, .data, .data, .data, .widerDeep, .pinned] true (true, "324db13ecccdfac483e05e065876ba90583797c1c7bd9926a61deb09269fb5d6") false
    row_holds (fun _ h => by cases h) (by kernel_rfl) (fun _ h => by cases h) fnExactConstructionText_row_tie rfl ⟨rfl, rfl⟩ (by kernel_rfl) rfl
    (fun f fn hf hfn => by
      obtain rfl : f = 6 := Option.some.inj ((show Tryd.prog.funcNamed "loop.example/g00857/laws.FnExactConstructionText" = some 6 by kernel_rfl).symm.trans hf) |>.symm
      obtain rfl : fn = Tryd.f6 := (Option.some.inj (Tryd.func6.symm.trans hfn)).symm
      exact ⟨by kernel_rfl, fun j t ht => by
        rw [Tryd.params6] at ht
        have hm : t ∈ [37] := by simpa using Array.mem_of_getElem? ht
        have hall : ([37].all fun u => !Tryd.prog.wantsStandIn u) = true := by kernel_rfl
        exact (show Tryd.prog.wantsStandIn t = false by simpa using List.all_eq_true.1 hall t hm)⟩)
    (by kernel_rfl)
end Go.Proofs.YtjkljnflaifbhaaDoor
