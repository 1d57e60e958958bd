/- A lemma text on a verified interpreter without memory (part VaiR). No conditions. -/
import Derived.Test.YtjfgddmngnkfdaaDoorVaiO
/- VAI R: A ROW's CALL. -/
namespace Go.Vai
open Go

def gh0 (w : World) : Gh := ⟨labA [] w, fun _ => none⟩

theorem gh0_imm {w : World} {n : Nat} (h : inHeap w n) : (gh0 w).imm n := by
  have h : n < w.heap.size := h
  simp only [Gh.imm, gh0, labA, if_pos h, List.not_mem_nil, if_false]

/-- An argument, as the interpreter is told it. -/
def argVal (P : Program) (T : TypeId) (y : Ty) (z : y.T) : Val := ⟨(aggOf P T).getD false, y.cells z⟩

theorem arg_open {H : Type} {enc : TypeId × Value → H} {P : Program} {w : World} {spare : Nat → Bool} {held : Bool} {r : Reach} {b0 d : Nat} {T : TypeId} {y : Ty} {v : Value} {x : DataW H} {ps : List MemPlace}
    (hl : layOk P d T y = true) (hval : Value.okWide P w r b0 T v) (h : DataW.Trod enc P w 0 spare held T v x ps) : ∃ z : y.T, NV (gh0 w) w (argVal P T y z) v ∧ y.wf z := by
  obtain ⟨fuel, hf⟩ := h
  obtain ⟨z, hz, hw⟩ := open_row d fuel T y _ _ hl hf
  have hz' : NsRel (gh0 w) w (y.cells z) v.cells.toList := ER.cells (ER.mono (fun b hb => ⟨gh0_imm hb, rfl⟩) hz)
  refine ⟨z, ?_, hw⟩
  cases d with
  | zero => cases hl
  | succ d =>
    have one : (∀ cs, v ≠ .agg cs) → (aggOf P T).getD false = false → NV (gh0 w) w (argVal P T y z) v := by
      intro hno hag
      have hc : v.cells = #[v] := by
        cases v <;> first | rfl | exact absurd rfl (hno _)
      rw [hc] at hz'
      simp only [argVal, hag]
      exact hz'
    unfold layOk at hl
    unfold Value.okWide at hval
    split at hl
    · rename_i k hu
      rw [hu] at hval
      refine one (fun cs e => ?_) (by simp [aggOf, hu])
      subst e
      simp [Cell.okWide, hu, Cell.ok] at hval
    · rename_i hu
      rw [hu] at hval
      refine one (fun cs e => ?_) (by simp [aggOf, hu])
      subst e
      simp [Cell.okWide, hu, Cell.ok] at hval
    · rename_i hu
      rw [hu] at hval
      refine one (fun cs e => ?_) (by simp [aggOf, hu])
      subst e
      simp [Cell.okWide, hu, Cell.ok] at hval
    · rename_i e hu
      rw [hu] at hval
      refine one (fun cs e => ?_) (by simp [aggOf, hu])
      subst e
      simp [Cell.okWide, hu, Cell.ok] at hval
    · rename_i fs hu
      rw [hu] at hval
      obtain ⟨cs, rfl, _⟩ := hval
      have hag : (aggOf P T).getD false = true := by simp [aggOf, hu]
      simp only [argVal, hag]
      exact ⟨cs, rfl, hz'⟩
    · cases hl

/-- A law's call, from its contract. -/
theorem law_calls {C : Ctx} {fid : FuncId} {c : Contract} (hS : Sound C fid c) (hg : ∀ h, C.glob h = none) {w : World} {args : List Value} {vals : List Val} (hv : NVs (gh0 w) w vals args) {x : c.β} (hG : c.G [] vals = some x)
    {v : Value} (he : (c.enc x).1 = .c (.v v)) (hrw : c.rw = false := by rfl) : Calls C.P fid args.toArray w fun e w' => e = .returned v ∧ Go.RowKit.Below w.heap.size w w' := by
  obtain ⟨ms, h1, h2⟩ := hv.fs
  have hP : Passed C (gh0 w) w [] vals args ms := {
    vals := h1
    free := by rw [h2]; exact Free.nil
    boxes := fun k cs hk => by simp at hk
    bxs := fun k n hk => by cases hk
    old := fun n hn => .inl (gh0_imm hn)
    new := fun n hn => by simp only [gh0, labA, if_neg (show ¬ n < w.heap.size by omega)]
    glob := fun h cs hc => by rw [hg] at hc; cases hc }
  refine ((hS.r hrw).2 _ w [] vals args ms x hP hG).mono ?_
  rintro e w' ⟨u, rfl, g', ms', bms, k1, k2, k3, k4, k5, k6, k7, k8, k9, k10, k11⟩
  rw [he] at k1
  obtain ⟨u', us, m, ms2, e1, e2, k12, _⟩ := (show FsRel g' w' [.v v] [u] ms' from k1)
  simp only [List.cons.injEq] at e1
  obtain ⟨rfl, _⟩ := e1
  have : u = v := k12.2 (.slot 0 0 0)
  subst this
  exact ⟨rfl, k5, k6, k7, k8, fun n hn => k9 n hn (by rw [h2]; exact List.not_mem_nil)⟩

end Go.Vai
