/- Where a letter stands in a text: runes beyond ASCII as well. No conditions. -/
import Derived.Shelf.Strings.IndexAnyAll
import Derived.Shelf.Small.Utf8
import Derived.Laws.Runes
import Derived.WalkMore
namespace Go.Proofs
open Go.Shelf Go.RowKit Go.Lib
variable {P : Program} {ρ : Ren}

theorem cont_hi {b : Nat} (h : (b / 64 == 2) = true) : 128 ≤ b ∧ b ≤ 191 := by
  have := beq_iff_eq.1 h; omega

theorem get_at {s : ByteArray} {i : Nat} {b : UInt8} (h : s.data.toList[i]? = some b) : s.get! i = b := by
  obtain ⟨hi, hb⟩ := List.getElem?_eq_some_iff.1 h
  have hi' : i < s.data.size := by simpa using hi
  show s.data[i]! = b
  rw [getElem!_pos s.data i hi', ← hb]
  simp

/-- A step of a range over a text at a byte that is no letter of ASCII. -/
theorem decode_far (s : ByteArray) (pos : Nat) (h : pos < s.size) (ha : 128 ≤ (s.get! pos).toNat) :
    128 ≤ (Utf8.decode s pos).1 ∧ (Utf8.decode s pos).1 ≤ 1114111 ∧ 1 ≤ (Utf8.decode s pos).2 ∧ pos + (Utf8.decode s pos).2 ≤ s.size ∧ ∀ j, j < (Utf8.decode s pos).2 → 128 ≤ (s.get! (pos + j)).toNat := by
  have hb := (s.get! pos).toNat_lt
  have one : 128 ≤ 65533 ∧ 65533 ≤ 1114111 ∧ 1 ≤ 1 ∧ pos + 1 ≤ s.size ∧ ∀ j, j < 1 → 128 ≤ (s.get! (pos + j)).toNat :=
    ⟨by omega, by omega, by omega, by omega, fun j hj => by rw [show j = 0 by omega]; exact ha⟩
  simp only [Utf8.decode, Nat.add_zero]
  rw [if_neg (by omega)]
  split
  · rename_i h1
    simp only [Bool.and_eq_true, decide_eq_true_eq, beq_iff_eq] at h1
    obtain ⟨h1, h2, h3⟩ := h1
    have c1 : 128 ≤ (s.get! (pos + 1)).toNat := by omega
    split
    · refine ⟨by assumption, by omega, by omega, by omega, fun j hj => ?_⟩
      match j, hj with
      | 0, _ => exact ha
      | 1, _ => exact c1
    · exact one
  · split
    · rename_i _ h1
      simp only [Bool.and_eq_true, decide_eq_true_eq, beq_iff_eq] at h1
      obtain ⟨⟨h1, h2, h3⟩, h4, h5⟩ := h1
      have c1 : 128 ≤ (s.get! (pos + 1)).toNat := by omega
      have c2 : 128 ≤ (s.get! (pos + 2)).toNat := by omega
      split
      · rename_i h6
        simp only [Bool.and_eq_true, decide_eq_true_eq, ge_iff_le] at h6
        refine ⟨by omega, by omega, by omega, by omega, fun j hj => ?_⟩
        match j, hj with
        | 0, _ => exact ha
        | 1, _ => exact c1
        | 2, _ => exact c2
      · exact one
    · split
      · rename_i _ _ h1
        simp only [Bool.and_eq_true, decide_eq_true_eq, beq_iff_eq] at h1
        obtain ⟨⟨⟨h1, h2, h3⟩, h4, h5⟩, h6, h7⟩ := h1
        have c1 : 128 ≤ (s.get! (pos + 1)).toNat := by omega
        have c2 : 128 ≤ (s.get! (pos + 2)).toNat := by omega
        have c3 : 128 ≤ (s.get! (pos + 3)).toNat := by omega
        split
        · rename_i h8
          simp only [Bool.and_eq_true, decide_eq_true_eq, ge_iff_le] at h8
          have hv := h8.2
          rw [validRune_eq] at hv
          simp only [validRune, decide_eq_true_eq] at hv
          refine ⟨by omega, by omega, by omega, by omega, fun j hj => ?_⟩
          match j, hj with
          | 0, _ => exact ha
          | 1, _ => exact c1
          | 2, _ => exact c2
          | 3, _ => exact c3
        · exact one
      · exact one

theorem run_next_far (w : World) (s : ByteArray) (pos : Nat) (ty : TypeId) (h : pos < s.size) :
    (Instr.next (.pointer (some ⟨w.heap.size, 0, none⟩)) true ty).run P (w.iter s pos) =
      .ok (.tuple #[.bool true, .int .i64 pos, .int .i32 (Utf8.decode s pos).1]) (w.iter s (pos + (Utf8.decode s pos).2)) := by
  simp only [Instr.next, getObj, setObj, Sem.run_bind, Sem.run, World.iter_heap, Result.andThen, h, if_true, World.iter_set]
  simp [goInt]
end Go.Proofs
