/- strings.IndexAny of two letters, in any text. No conditions. -/
import Derived.Test.YtjfgddmngnkfdaaDoorSIdx3
namespace Go.Proofs
open Go.Shelf Go.RowKit Go.Lib
variable {P : Program} {ρ : Ren}

theorem Any.strings_IndexRune_far (L : Lays.n152 P ρ) (s : ByteArray) (hs : s.size = 2) (hasc : ∀ (j : Nat) b, s.data.toList[j]? = some b → b.toNat < 128) (r : Int) (h0 : 128 ≤ r) (w : World) :
    Calls P (ρ.f 152) #[.string s, .int .i32 r] w fun e w' => e = .returned (.int .i64 (-1)) ∧ Below w.heap.size w w' := by
  by_cases hr : r = 65533
  · subst hr; exact Any.strings_IndexRune_err L s hasc w
  · cases hv : Lib.validRune r with
    | true => exact Any.strings_IndexRune_good L s hs hasc r h0 hr hv w
    | false => exact Any.strings_IndexRune_bad L s r h0 hr hv w

/-- The iterator has gone on. -/
def stepIt (w : World) (b : Nat) (s : ByteArray) (pos : Nat) : World := { w with heap := w.heap.setIfInBounds b (.stringIter s pos) }

theorem run_next_at {w : World} {b : Nat} {s : ByteArray} {pos : Nat} (hb : w.heap[b]? = some (.stringIter s pos)) (ty : TypeId) (h : pos < s.size) :
    (Instr.next (.pointer (some ⟨b, 0, none⟩)) true ty).run P w = .ok (.tuple #[.bool true, .int .i64 pos, .int .i32 (Utf8.decode s pos).1]) (stepIt w b s (pos + (Utf8.decode s pos).2)) := by
  simp [Instr.next, getObj, setObj, Sem.run_bind, Sem.run, hb, Result.andThen, h, goInt, stepIt]

theorem run_next_over {w : World} {b : Nat} {s : ByteArray} {pos : Nat} (hb : w.heap[b]? = some (.stringIter s pos)) (ty : TypeId) (h : ¬ pos < s.size) :
    (Instr.next (.pointer (some ⟨b, 0, none⟩)) true ty).run P w = .ok (.tuple #[.bool false]) w := by
  simp [Instr.next, getObj, Sem.run, hb, Result.andThen, h]

theorem stepIt_at {w : World} {b : Nat} {s : ByteArray} {pos : Nat} {o : Obj} (hb : w.heap[b]? = some o) : (stepIt w b s pos).heap[b]? = some (.stringIter s pos) := by
  have := (Array.getElem?_eq_some_iff.1 hb).1
  simp [stepIt, this]

theorem stepIt_below {w0 w : World} {b : Nat} {s : ByteArray} {pos : Nat} (h : Below b w0 w) : Below b w0 (stepIt w b s pos) :=
  ⟨h.os, h.tape, h.output, by simp [stepIt]; exact h.size, fun k hk => by
    rw [← h.block k hk]
    simp only [stepIt, Array.getElem?_setIfInBounds]
    rw [if_neg (by omega)]⟩

theorem noAny_far {s chars : List UInt8} (hc : ∀ (j : Nat) b, chars[j]? = some b → b.toNat < 128) : ∀ (k i : Nat), Lib.NoAny s chars i → (∀ j, j < k → ∃ b, s[i + j]? = some b ∧ 128 ≤ b.toNat) → Lib.NoAny s chars (i + k)
  | 0, _, h, _ => h
  | k + 1, i, h, hb => by
    obtain ⟨b, h1, h2⟩ := hb 0 (by omega)
    have hin : chars.contains b = false := by
      rw [Bool.eq_false_iff]
      intro hcon
      have hm : b ∈ chars := by simpa using hcon
      obtain ⟨j, hj⟩ := List.getElem?_of_mem hm
      have := hc j b hj
      omega
    have := noAny_far hc k (i + 1) (h.succ h1 hin) (fun j hj => by
      obtain ⟨b', k1, k2⟩ := hb (j + 1) (by omega)
      exact ⟨b', by rw [show i + 1 + j = i + (j + 1) by omega]; exact k1, k2⟩)
    rw [show i + (k + 1) = i + 1 + k by omega]
    exact this

set_option maxHeartbeats 8000000 in
set_option maxRecDepth 1000000 in
theorem Any.strings_IndexAny_short2 (L : Lays.n153 P ρ) (s chars : ByteArray) (w : World) (h2 : chars.size = 2) (h8 : s.size ≤ 8) (hascii : ∀ (j : Nat) b, chars.data.toList[j]? = some b → b.toNat < 128) :
    Calls P (ρ.f 153) #[.string s, .string chars] w fun e w' => e = .returned (.int .i64 (Lib.indexAny s.data.toList chars.data.toList)) ∧ Below w.heap.size w w' := by
  have HA : Aside (∀ (j : Nat) b, chars.data.toList[j]? = some b → b.toNat < 128) := hascii
  clear hascii
  have hemp : chars.toList.isEmpty = false := by
    rw [Lib.toList_data]
    cases h : chars.data.toList with
    | nil => have := Lib.size_eq chars; rw [h, List.length_nil] at this; omega
    | cons _ _ => rfl
  have hn1 : ((chars.size : Int) == 1) = false := beq_eq_false_iff_ne.2 (by omega)
  have h8z : decide ((8 : Int) < (s.size : Int)) = false := decide_eq_false (by omega)
  have t3 := L.t3; have a3 := L.a3; have z3 := L.z3; have v3 := L.v3
  have t4 := L.t4; have a4 := L.a4; have z4 := L.z4; have v4 := L.v4
  have t5 := L.t5; have a5 := L.a5; have z5 := L.z5; have v5 := L.v5
  have t9 := L.t9; have a9 := L.a9; have z9 := L.z9; have v9 := L.v9
  have t21 := L.t21; have a21 := L.a21; have z21 := L.z21; have v21 := L.v21
  have e152 : ∀ args w, (callFunc (ρ.f 152) args).run P w = .ok (.enter (ρ.f 152) args) w := enters_of L.f152 (by kernel_rfl) rfl
  have e226 : ∀ args w, (callFunc (ρ.f 226) args).run P w = .ok (.enter (ρ.f 226) args) w := enters_of L.f226 (by kernel_rfl) rfl
  go_enter L.f153, Body.n153_ntmps ρ
  go_wp2_with (go_at_fn (ρ.f 226); refine (Any.strings_shouldUseASCIISet { L with } _ _).mono ?_; rintro e w' ⟨rfl, hw⟩; rw [hw, h8z])
  go_loopg [9, 10] s.size (fun g _ _ wx => ∃ i : Nat, i + g = s.size ∧ Aside (wx.heap[w.heap.size]? = some (.stringIter s i) ∧ Below w.heap.size w wx ∧ Lib.NoAny s.data.toList chars.data.toList i))
  case atStart => exact ⟨0, by omega, World.iter_heap w s 0, (Below.refl _ _).alloc (Nat.le_refl _) _, Lib.NoAny.zero _ _⟩
  case round =>
    obtain ⟨i, hig, HN⟩ := hrel
    have hnb := HN.out.1
    cases gk with
    | zero =>
      obtain rfl : i = s.size := by omega
      have hnx := fun ty => run_next_over (P := P) hnb ty (by omega)
      clear hnb
      go_wp2
      go_ret
      exact ⟨by rw [Lib.indexAny_none (by rw [← Lib.size_eq]; exact HN.out.2.2)]; rfl, HN.out.2.1⟩
    | succ g =>
      have hi : i < s.size := by omega
      have hnx := fun ty => run_next_at (P := P) hnb ty hi
      obtain ⟨x, hx⟩ : ∃ x : UInt8, s[i]'hi = x := ⟨_, rfl⟩
      have hxl : s.data.toList[i]? = some x := by rw [← hx]; exact Lib.data_getElem? s i hi
      have hgx : s.get! i = x := get_at hxl
      by_cases hx128 : x.toNat < 128
      · have hdec : Utf8.decode s i = (x.toNat, 1) := by rw [decode_ascii s i hi (by rw [hx]; exact hx128), hx]
        rw [hdec] at hnx
        have Hx : Aside (s.data.toList[i]? = some x) := hxl
        have HS : Aside ((stepIt wr w.heap.size s (i + 1)).heap[w.heap.size]? = some (.stringIter s (i + 1)) ∧ Below w.heap.size w (stepIt wr w.heap.size s (i + 1))) := ⟨stepIt_at hnb, stepIt_below HN.out.2.1⟩
        clear hxl hx hdec hgx hnb
        have hcon := Lib.contains_iff_indexByte chars.data.toList x
        have hback : ((x.toNat : Int)).toNat.toUInt8 = x := by simp
        cases hin : chars.data.toList.contains x
        · rw [hin] at hcon
          have hlt : ¬ ((0 : Int) ≤ Lib.indexByte chars.data.toList x) := of_decide_eq_false hcon.symm
          clear hcon
          go_wp2_with (go_at_fn (ρ.f 152); refine (Any.strings_IndexRune_ascii { L with } _ _ _ (by omega) (by omega)).mono ?_; rintro e w' ⟨rfl, hw⟩; rw [hw, hback])
          go_roundg g
          case measure => omega
          case rel => exact ⟨i + 1, by omega, HS.out.1, HS.out.2, HN.out.2.2.succ Hx.out hin⟩
        · rw [hin] at hcon
          have hge : (0 : Int) ≤ Lib.indexByte chars.data.toList x := of_decide_eq_true hcon.symm
          clear hcon
          go_wp2_with (go_at_fn (ρ.f 152); refine (Any.strings_IndexRune_ascii { L with } _ _ _ (by omega) (by omega)).mono ?_; rintro e w' ⟨rfl, hw⟩; rw [hw, hback])
          go_ret
          exact ⟨by rw [Lib.indexAny_hit HN.out.2.2 Hx.out hin]; rfl, HS.out.2⟩
      · obtain ⟨d1, d2, d3, d4, d5⟩ := decode_far s i hi (by rw [hgx]; omega)
        have HF : Aside (Lib.NoAny s.data.toList chars.data.toList (i + (Utf8.decode s i).2)) := noAny_far HA.out _ i HN.out.2.2 (fun j hj => by
          have hl : i + j < s.data.toList.length := by rw [← Lib.size_eq]; omega
          refine ⟨s.data.toList[i + j], List.getElem?_eq_getElem hl, ?_⟩
          have := d5 j hj
          rwa [get_at (List.getElem?_eq_getElem hl)] at this)
        have HS : Aside ((stepIt wr w.heap.size s (i + (Utf8.decode s i).2)).heap[w.heap.size]? = some (.stringIter s (i + (Utf8.decode s i).2)) ∧ Below w.heap.size w (stepIt wr w.heap.size s (i + (Utf8.decode s i).2))) := ⟨stepIt_at hnb, stepIt_below HN.out.2.1⟩
        obtain ⟨c, hc⟩ : ∃ c, (Utf8.decode s i).1 = c := ⟨_, rfl⟩
        obtain ⟨k, hk⟩ : ∃ k, (Utf8.decode s i).2 = k := ⟨_, rfl⟩
        rw [hc, hk] at hnx
        rw [hk] at HF HS d4
        rw [hk] at d3
        rw [hc] at d1
        clear d2 d5 hc hk hxl hx hgx hnb
        have hm1 : ¬ ((0 : Int) ≤ -1) := by decide
        go_wp2_with (go_at_fn (ρ.f 152); refine (Any.strings_IndexRune_far { L with } _ h2 HA.out _ (by omega) _).mono ?_; rintro e w2 ⟨rfl, hw2⟩)
        have HW : Aside (Below (stepIt wr w.heap.size s (i + k)).heap.size (stepIt wr w.heap.size s (i + k)) w2) := hw2
        clear hw2
        go_wp2
        go_roundg (s.size - (i + k))
        case measure => omega
        case rel =>
          have hlt := (Array.getElem?_eq_some_iff.1 HS.out.1).1
          exact ⟨i + k, by omega, by rw [HW.out.block _ hlt]; exact HS.out.1, HS.out.2.trans (HW.out.mono (Nat.le_of_lt hlt)), HF.out⟩

theorem Any.strings_IndexAny_two (L : Lays.n153 P ρ) (h116 : (P.info? (ρ.t 116)).map (fun i => (i.zero, i.size)) = some (some (.agg (Array.replicate 256 (.bool false))), 256)) (s chars : ByteArray) (w : World) (hs : s.size < 4294967281) (h2 : chars.size = 2)
    (hac : ∀ (j : Nat) b, chars.data.toList[j]? = some b → b.toNat < 128) :
    Calls P (ρ.f 153) #[.string s, .string chars] w fun e w' => e = .returned (.int .i64 (Lib.indexAny s.data.toList chars.data.toList)) ∧ Below w.heap.size w w' := by
  by_cases h8 : s.size ≤ 8
  · exact Any.strings_IndexAny_short2 L s chars w h2 h8 hac
  · refine (Any.strings_IndexAny_long L (zero_of_info h116).1 (zero_of_info h116).2 s chars w (by omega) (by omega) hs (by omega) hac).mono fun e w' ⟨h1, h2⟩ => ⟨h1, ?_⟩
    rw [h2]
    refine ((Below.refl _ _).alloc (Nat.le_refl _) _).alloc ?_ _
    simp
end Go.Proofs
