/- A rune beyond ASCII does not stand in a text of two letters. No conditions. -/
import Derived.Test.YtjfgddmngnkfdaaDoorSIdx2
import Derived.Shelf.RegionOpenPlain
namespace Go.Proofs
open Go.Shelf Go.RowKit Go.Lib
variable {P : Program} {ρ : Ren}

set_option maxHeartbeats 8000000 in
set_option maxRecDepth 1000000 in
theorem Any.strings_IndexRune_good (L : Lays.n152 P ρ) (s : ByteArray) (hs : s.size = 2) (hasc : ∀ (j : Nat) b, s.data.toList[j]? = some b → b.toNat < 128) (r : Int) (h0 : 128 ≤ r) (hr : r ≠ 65533) (hv : Lib.validRune r = true) (w : World) :
    Calls P (ρ.f 152) #[.string s, .int .i32 r] w fun e w' => e = .returned (.int .i64 (-1)) ∧ Below w.heap.size w w' := by
  have HA : Aside (∀ (j : Nat) b, s.data.toList[j]? = some b → b.toNat < 128) := hasc
  clear hasc
  have hne : (r == 65533) = false := beq_eq_false_iff_ne.2 hr
  have hlt : ¬ (r < 128) := by omega
  have hge : 0 ≤ r := by omega
  have hval : Utf8.valid r = true := by rw [validRune_eq]; exact hv
  obtain ⟨e2, e4, elast⟩ := encode_facts r hval h0
  obtain ⟨rs, hrs⟩ : ∃ rs, Utf8.encode r = rs := ⟨_, rfl⟩
  rw [hrs] at e2 e4 elast
  have hat : ∀ i (h : i < rs.size), i = rs.size - 1 → 128 ≤ (rs[i]'h).toNat := by
    rintro i h rfl
    exact elast h
  have t3 := L.t3; have a3 := L.a3; have z3 := L.z3; have v3 := L.v3
  have t4 := L.t4; have a4 := L.a4; have z4 := L.z4; have v4 := L.v4
  have t5 := L.t5; have a5 := L.a5; have z5 := L.z5; have v5 := L.v5
  have t9 := L.t9; have a9 := L.a9; have z9 := L.z9; have v9 := L.v9
  have t21 := L.t21; have a21 := L.a21; have z21 := L.z21; have v21 := L.v21
  have mixed := L.mixed
  have e119 : ∀ args w, (callFunc (ρ.f 119) args).run P w = .ok (.enter (ρ.f 119) args) w := enters_of L.f119 (by kernel_rfl) rfl
  have e137 : ∀ args w, (callFunc (ρ.f 137) args).run P w = .ok (.enter (ρ.f 137) args) w := enters_of L.f137 (by kernel_rfl) rfl
  go_enter L.f152, Body.n152_ntmps ρ
  go_wp2_with (go_at_fn (ρ.f 119); refine (Any.utf8_ValidRune { L with } _ _).mono ?_; rintro e w' ⟨rfl, hw⟩; rw [hw, hv])
  go_step3
  go_wp2
  by_cases h2 : rs.size = 2
  · go_loopg [9] 1 (fun g s9 wx => s9 = .int .i64 ((rs.size : Int) - 1) ∧ wx = w)
    case atStart => exact ⟨rfl, rfl⟩
    case round =>
      obtain ⟨rfl, rfl⟩ := hrel
      have h3 : (rs.size : Int) - 1 < (s.size : Int) := by omega
      have hw2 : IntKind.i64.wrap 2 = 2 := by decide
      have h1s : 1 < s.size := by omega
      have h1r : 1 < rs.size := by omega
      have hel := hat 1 h1r (by omega)
      clear hat elast e2 e4
      have hxne : (((s[1]'h1s).toNat : Int) == ((rs[1]'h1r).toNat : Int)) = false := by
        have := HA.out 1 _ (Lib.data_getElem? s 1 h1s)
        exact beq_eq_false_iff_ne.2 (by omega)
      go_wp2
      go_step3
      go_wp2
      go_region_o
      all_goals go_wp2_with fail
      go_quiet_o (first | (go_at_fn (ρ.f 137); refine (Any.strings_IndexByte { L with } _ _ _).mono ?_; rintro e w1 ⟨h1, h2⟩; exact ⟨h1, _, h2⟩))
      have hix : ∀ c, Lib.indexByte [] c = -1 := fun _ => rfl
      rw [hix]
      go_wp2
      simp only [Exit.noGoto_ret, Exit.inBlock, Exit.then]
      go_ret
      exact ⟨rfl, ⟨rfl, rfl, rfl, Nat.le_refl _, fun _ _ => rfl⟩⟩
  · have h3 : ¬ ((rs.size : Int) - 1 < (s.size : Int)) := by omega
    go_loopg [9] 1 (fun g s9 wx => s9 = .int .i64 ((rs.size : Int) - 1) ∧ wx = w)
    case atStart => exact ⟨rfl, rfl⟩
    case round =>
      obtain ⟨rfl, rfl⟩ := hrel
      go_wp2
      go_ret
      exact ⟨rfl, Below.refl _ _⟩
end Go.Proofs
