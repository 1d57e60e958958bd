/- What is proved: the law FnExactReadStrip returns true at every input and leaves it as it was, where the listed variables hold what the program's text lays in them; the card ties that to the text. No other conditions. -/
import Derived.Test.YtjfgddmngnkfdaaDoorRS8
import Derived.Test.YtjfgddmngnkfdaaDoorVaiG
import Derived.Test.YtjfgddmngnkfdaaDoorTie
import Derived.Test.YtjfgddmngnkfdaaDoorCards
import Derived.LaidMore
import Derived.Lay
import Derived.Stop.LaidErr
import Derived.Stop.Joined
import Derived.SevenTiedAt
namespace Go.Proofs.YtjfgddmngnkfdaaDoor
open Go.ChangeShapes Go.WideShapes Go.ChangeAt Go.RowKit Go.Vai

theorem Tryd.own : ownKnob Tryd.prog.godebug = none := by kernel_rfl
theorem Tryd.laidOut : laidOutB Tryd.prog = true := by kernel_rfl
theorem gVec : Tryd.prog.globalNamed "internal/strconv.uint64pow10" = some 3 := by kernel_rfl
theorem tVec : (Tryd.prog.globals[3]?).map (·.type) = some 90 := by kernel_rfl

abbrev laidL : List (String × DataW Unit) := [("math/bits.deBruijn32tab", Rows.laid_math_bits_deBruijn32tab), ("math/bits.deBruijn64tab", Rows.laid_math_bits_deBruijn64tab), ("internal/strconv.uint64pow10", Rows.laid_internal_strconv_uint64pow10), ("strconv.ErrRange", Rows.laid_strconv_ErrRange), ("strconv.ErrSyntax", Rows.laid_strconv_ErrSyntax)]

theorem glob_else {ee : EV} {k : Nat} (h1 : k ≠ 1) (h2 : k ≠ 2) (h3 : k ≠ 3) : (C0 ee).glob k = none := by
  show (match k with | 1 => _ | 2 => _ | 3 => _ | _ => none) = none
  split <;> first | contradiction | rfl

theorem star : "*" ++ "errors.errorString" = "*errors.errorString" := by decide
theorem row95 (u : TypeId) (h : Tryd.prog.typeName? 3 u = some "*errors.errorString") : u = 95 :=
  typeName_ptr_named (nm := "errors.errorString") (by rw [star]; kernel_rfl) (by kernel_rfl) (by decide) u (by rw [star]; exact h)

theorem var_cells {P : Program} {w : World} {n : String} {g : Nat} {cs : Array Value} (hg : P.globalNamed n = some g) (hv : w.var? P n = some cs) : ∃ e fz, w.heap[g]? = some (.cells cs e fz) := by
  simp only [World.var?, hg, Option.bind_some] at hv
  split at hv
  · rename_i cs' e' fz hh
    cases hv
    exact ⟨e', fz, hh⟩
  · cases hv

theorem glob_ok {W : World} (h : laidMetH Tryd.prog laidL W) : ∃ ee : EV, ∀ k cs, (C0 ee).glob k = some cs → ∃ vs e fz, W.heap[k]? = some (.cells vs e fz) ∧ cs = vs.toList.map .v := by
  rw [MakeChecks.laidMetH_plain _ _ _ (by kernel_rfl)] at h
  obtain ⟨vs, e, fz, h1, h2⟩ := glob_at (d := 8) (y := (.int .u64)) (n := 20) 2 rfl gVec tVec Tryd.underlying90 (by kernel_rfl) rfl (by kernel_rfl) h
  have gR : Tryd.prog.globalNamed "strconv.ErrRange" = some 2 := by kernel_rfl
  have gS : Tryd.prog.globalNamed "strconv.ErrSyntax" = some 1 := by kernel_rfl
  obtain ⟨aR, sR, vR, _, _, _⟩ := laid_sentinel h.tail.tail.tail gR (by kernel_rfl) Tryd.underlying59 row95 Tryd.underlying95 Tryd.underlying97 rfl rfl Tryd.underlying9 (by kernel_rfl) (by kernel_rfl)
  obtain ⟨aS, sS, vS, _, _, _⟩ := laid_sentinel h.tail.tail.tail.tail gS (by kernel_rfl) Tryd.underlying59 row95 Tryd.underlying95 Tryd.underlying97 rfl rfl Tryd.underlying9 (by kernel_rfl) (by kernel_rfl)
  obtain ⟨eR, fR, hR⟩ := var_cells gR vR
  obtain ⟨eS, fS, hS⟩ := var_cells gS vS
  refine ⟨((95, .pointer (some aS)), (95, .pointer (some aR))), ?_⟩
  intro k cs hk
  have hk' : (C0 ((95, .pointer (some aS)), (95, .pointer (some aR)))).glob k = some cs := hk
  by_cases hk1 : k = 1
  · subst hk1
    have hk2 : some [CV.v (.iface 95 (.pointer (some aS)))] = some cs := hk'
    cases hk2
    exact ⟨_, eS, fS, hS, rfl⟩
  · by_cases hk2 : k = 2
    · subst hk2
      have hk2 : some [CV.v (.iface 95 (.pointer (some aR)))] = some cs := hk'
      cases hk2
      exact ⟨_, eR, fR, hR, rfl⟩
    · by_cases hk0 : k = 3
      · subst hk0
        have hk2 : some (powCells.map CV.v) = some cs := hk'
        cases hk2
        refine ⟨vs, e, fz, h1, ?_⟩
        rw [h2]
        kernel_rfl
      · rw [glob_else hk1 hk2 hk0] at hk'
        cases hk'

set_option maxRecDepth 100000 in
theorem f_calls {w : World} (hL : laidMetH Tryd.prog laidL w) {H : Type} {enc : TypeId × Value → H} {r : Reach} {b0 : Nat} {v0 : Value} {d0 : DataW H} {p0 : List MemPlace} (hval0 : Value.okWide Tryd.prog w r b0 9 v0) (h0 : DataW.Trod enc Tryd.prog w 0 (fun _ => true) true 9 v0 d0 p0) :
    Calls Tryd.prog 4 #[v0] w fun e w' => e = .returned (.bool true) ∧ Below w.heap.size w w' := by
  obtain ⟨z0, hz0, hw0⟩ := arg_open (d := 8) (y := .str) (by kernel_rfl) hval0 h0
  obtain ⟨ee, hg⟩ := glob_ok hL
  refine law_calls_glob (C := C0 ee) so_laws_FnExactReadStrip rfl hg (vals := [argVal Tryd.prog 9 .str z0]) ⟨v0, [], rfl, hz0, rfl⟩ (x := true) ?_ rfl
  have hag0 : aggOf Tryd.prog 9 = some false := by kernel_rfl
  simp only [argVal, hag0, Option.getD_some]
  exact xParse_vals_true (ax := as_laws_FnExactReadStrip) (z := (z0, ())) (by kernel_rfl) ((fun z hw => law_ReadStrip z) z0 hw0)

set_option maxRecDepth 100000 in
theorem lifted (os : Os) (started : os.Started) (H : Type) (enc : TypeId × Value → H) :
    ReturnsInHanded {} Tryd.checked os 4 .any (fun w args => (Rows.fnExactReadStripSpec.pre enc Tryd.prog Tryd.f4 [] false w args ∧ laidMetH Tryd.prog laidL w) ∧ sizedMet enc Tryd.prog Tryd.f4 (OpenSpec.ofChange Rows.fnExactReadStripSpec) false w args)
      (Rows.fnExactReadStripSpec.post enc Tryd.prog Tryd.f4 false true false false) := by
  refine returnsInHanded_of_change_and (C := Tryd.checked) (X := fun w _ => laidMetH Tryd.prog laidL w) (fun _ _ _ hh h => h.of_heap hh) Tryd.own started (by kernel_rfl) Tryd.func4
    (ChangeSpec.witness_shaped (enc := enc) (C := Tryd.checked) (os := os) (X := fun w _ => laidMetH Tryd.prog laidL w) false (World.laidAll Tryd.prog os laidL) #[.string ⟨#[]⟩] 8 (World.laidAll_os _ _ _) (World.shaped_of_ZipB (by kernel_rfl) (by kernel_rfl)) (by kernel_rfl) (by kernel_rfl) (by kernel_rfl) (by rw [MakeChecks.laidMetH_plain _ _ _ (by kernel_rfl)]; exact laidMet_laidAll _ (by kernel_rfl) (by kernel_rfl))) ?_
  intro W base args ds gs before hval0 hW _ _ hL _
  have hval : ∀ (j : Nat) t v, Tryd.f4.params[j]? = some t → args[j]? = some v → Value.okWide Tryd.prog W .any base t v := hval0
  have hW' := hW
  have hlt := fun p hp => hW.lt p hp
  obtain ⟨p, q, hA0, hV, rfl, hfz, hnd⟩ := hW
  have hA : DataW.TrodAll enc Tryd.prog W 0 (fun _ => true) true Tryd.f4.params.toList args.toList ds p := hA0
  have hV : DataW.TrodVars enc Tryd.prog W (fun _ => true) [] gs q := hV
  rw [Tryd.params4] at hA hval
  obtain ⟨v0, d0, rfl, rfl, h0⟩ := trodAll_one hA
  have hv0 := hval 0 _ v0 rfl rfl
  clear hA0 hval0
  obtain ⟨rfl, rfl⟩ := trodVars_none hV
  simp only [List.append_nil] at hW' hlt
  refine (f_calls hL hv0 h0).mono fun e W' ⟨he, hb⟩ => ?_
  subst he
  have hT : DataW.TrodAll enc Tryd.prog W' 0 (fun b => decide (b < W.heap.size)) true [9] [v0] [d0] p := by
    exact trodAll_mk1 (Below.trod Tryd.laidOut (by kernel_rfl) (of_decide_eq_true (by kernel_rfl)) h0 hb (fun x hx => hlt x hx))
  exact ⟨_, rfl, [d0], [], p, [], p, [], hW', trodAll_mk1 (shut_bool (by kernel_rfl) true), hT, rfl, hb.frame _, fun h => by cases h⟩

theorem row_holds : Rows.FnExactReadStripSaid :=
  OpenClaim.holds_of_wide 4 Tryd.f4 rfl rfl rfl rfl rfl rfl rfl ⟨rfl, rfl, rfl, rfl, rfl⟩ rfl rfl rfl rfl rfl (by kernel_rfl) Tryd.func4 (by kernel_rfl)
    (of_decide_eq_true (by kernel_rfl)) (by unfold Func.isWrapper; first | (rw [if_pos (by decide +kernel)]; kernel_rfl) | (rw [if_neg (by decide +kernel)]; exact ⟨rfl, rfl⟩))
    (fun os started H enc _ => lifted os started H enc)

theorem readStrip_holds : Rows.FnExactReadStripCardSaid :=
  Claim7.holds_tied_plain_at .later [] [.data, .data, .data, .sentinel, .sentinel] true (true, "87b2a2b93a58f20d33690ba052129631e4a7588e8fedcf092c4b91fcabda7886") true
    row_holds (fun _ h => by cases h) (by kernel_rfl) (fun _ h => by cases h) fnExactReadStrip_row_tie rfl ⟨rfl, rfl⟩ (by kernel_rfl) rfl
    (fun f fn hf hfn => by
      obtain rfl : f = 4 := Option.some.inj ((show Tryd.prog.funcNamed "loop.example/g00857/laws.FnExactReadStrip" = some 4 by kernel_rfl).symm.trans hf) |>.symm
      obtain rfl : fn = Tryd.f4 := (Option.some.inj (Tryd.func4.symm.trans hfn)).symm
      exact ⟨by kernel_rfl, fun j t ht => by
        rw [Tryd.params4] at ht
        have hm : t ∈ [9] := by simpa using Array.mem_of_getElem? ht
        have hall : ([9].all fun u => !Tryd.prog.wantsStandIn u) = true := by kernel_rfl
        exact (show Tryd.prog.wantsStandIn t = false by simpa using List.all_eq_true.1 hall t hm)⟩)
    (by kernel_rfl)
end Go.Proofs.YtjfgddmngnkfdaaDoor
