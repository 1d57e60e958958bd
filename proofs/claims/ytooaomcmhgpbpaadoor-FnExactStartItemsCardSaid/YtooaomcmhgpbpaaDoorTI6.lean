/- The items at the start. No conditions. -/
import Derived.Test.YtooaomcmhgpbpaaDoorTI5
namespace Go.Proofs.YtooaomcmhgpbpaaDoor
open Go.Vai
abbrev It := ByteArray × (Bool × (Pt × Ln))
def zN : Nm := (0, (0, 0))
def ptI (n : ByteArray) (p : Pt) : It := (n, (false, (p, (0, zN))))
def lnI (n : ByteArray) (l : Ln) : It := (n, (true, ((zN, zN), l)))
abbrev b1 (n : UInt8) : ByteArray := ⟨#[n]⟩
abbrev nms : List ByteArray := [b1 97, b1 98, b1 99, b1 100]

theorem spec_pts (p0 p1 p2 p3 : Pt) : w_spec_l24Start_6 (m_spec_l24Start_6 [p0, p1, p2, p3] nms [] 0) = some (.inl (d_spec_l24Start_6_0 [p0, p1, p2, p3] nms [ptI (b1 97) p0, ptI (b1 98) p1, ptI (b1 99) p2, ptI (b1 100) p3])) := by
  have e0 : w_spec_l24Start_6 (m_spec_l24Start_6 [p0, p1, p2, p3] nms [] 0) = w_spec_l24Start_6 (m_spec_l24Start_6 [p0, p1, p2, p3] nms [ptI (b1 97) p0] 1) := by
    rw [wq_spec_l24Start_6]; rfl
  have e1 : w_spec_l24Start_6 (m_spec_l24Start_6 [p0, p1, p2, p3] nms [ptI (b1 97) p0] 1) = w_spec_l24Start_6 (m_spec_l24Start_6 [p0, p1, p2, p3] nms [ptI (b1 97) p0, ptI (b1 98) p1] 2) := by
    rw [wq_spec_l24Start_6]; rfl
  have e2 : w_spec_l24Start_6 (m_spec_l24Start_6 [p0, p1, p2, p3] nms [ptI (b1 97) p0, ptI (b1 98) p1] 2) = w_spec_l24Start_6 (m_spec_l24Start_6 [p0, p1, p2, p3] nms [ptI (b1 97) p0, ptI (b1 98) p1, ptI (b1 99) p2] 3) := by
    rw [wq_spec_l24Start_6]; rfl
  have e3 : w_spec_l24Start_6 (m_spec_l24Start_6 [p0, p1, p2, p3] nms [ptI (b1 97) p0, ptI (b1 98) p1, ptI (b1 99) p2] 3) = w_spec_l24Start_6 (m_spec_l24Start_6 [p0, p1, p2, p3] nms [ptI (b1 97) p0, ptI (b1 98) p1, ptI (b1 99) p2, ptI (b1 100) p3] 4) := by
    rw [wq_spec_l24Start_6]; rfl
  rw [e0, e1, e2, e3, wq_spec_l24Start_6]; rfl

/-- The items. -/
def items (p0 p1 p2 p3 : Pt) (l0 l1 l2 l3 : Ln) : List It := [ptI (b1 97) p0, ptI (b1 98) p1, ptI (b1 99) p2, ptI (b1 100) p3, lnI (b1 97 ++ b1 98) l0, lnI (b1 98 ++ b1 99) l1, lnI (b1 99 ++ b1 100) l2, lnI (b1 100 ++ b1 97) l3]

theorem spec_lines (p0 p1 p2 p3 : Pt) (l0 l1 l2 l3 : Ln) (h0 : g_spec_LineThrough p0 p1 = some (l0, 0)) (h1 : g_spec_LineThrough p1 p2 = some (l1, 0)) (h2 : g_spec_LineThrough p2 p3 = some (l2, 0)) (h3 : g_spec_LineThrough p3 p0 = some (l3, 0)) : w_spec_l24Start_10 (m_spec_l24Start_10 [p0, p1, p2, p3] nms [ptI (b1 97) p0, ptI (b1 98) p1, ptI (b1 99) p2, ptI (b1 100) p3] 0) = some (.inl (d_spec_l24Start_10_0 (items p0 p1 p2 p3 l0 l1 l2 l3))) := by
  have e0 : w_spec_l24Start_10 (m_spec_l24Start_10 [p0, p1, p2, p3] nms [ptI (b1 97) p0, ptI (b1 98) p1, ptI (b1 99) p2, ptI (b1 100) p3] 0) = w_spec_l24Start_10 (m_spec_l24Start_10 [p0, p1, p2, p3] nms [ptI (b1 97) p0, ptI (b1 98) p1, ptI (b1 99) p2, ptI (b1 100) p3, lnI (b1 97 ++ b1 98) l0] 1) := by
    rw [wq_spec_l24Start_10, u_spec_l24Start_10, dec_t (by decide), cond_true, show idx [p0, p1, p2, p3] (0 : Int) = some p0 from rfl, Option.bind_some, show idx [p0, p1, p2, p3] (Int.tmod (IntKind.wrap IntKind.i64 ((0 : Int) + 1)) 4) = some p1 from rfl, Option.bind_some, h0, Option.bind_some]; kernel_rfl
  have e1 : w_spec_l24Start_10 (m_spec_l24Start_10 [p0, p1, p2, p3] nms [ptI (b1 97) p0, ptI (b1 98) p1, ptI (b1 99) p2, ptI (b1 100) p3, lnI (b1 97 ++ b1 98) l0] 1) = w_spec_l24Start_10 (m_spec_l24Start_10 [p0, p1, p2, p3] nms [ptI (b1 97) p0, ptI (b1 98) p1, ptI (b1 99) p2, ptI (b1 100) p3, lnI (b1 97 ++ b1 98) l0, lnI (b1 98 ++ b1 99) l1] 2) := by
    rw [wq_spec_l24Start_10, u_spec_l24Start_10, dec_t (by decide), cond_true, show idx [p0, p1, p2, p3] (1 : Int) = some p1 from rfl, Option.bind_some, show idx [p0, p1, p2, p3] (Int.tmod (IntKind.wrap IntKind.i64 ((1 : Int) + 1)) 4) = some p2 from rfl, Option.bind_some, h1, Option.bind_some]; kernel_rfl
  have e2 : w_spec_l24Start_10 (m_spec_l24Start_10 [p0, p1, p2, p3] nms [ptI (b1 97) p0, ptI (b1 98) p1, ptI (b1 99) p2, ptI (b1 100) p3, lnI (b1 97 ++ b1 98) l0, lnI (b1 98 ++ b1 99) l1] 2) = w_spec_l24Start_10 (m_spec_l24Start_10 [p0, p1, p2, p3] nms [ptI (b1 97) p0, ptI (b1 98) p1, ptI (b1 99) p2, ptI (b1 100) p3, lnI (b1 97 ++ b1 98) l0, lnI (b1 98 ++ b1 99) l1, lnI (b1 99 ++ b1 100) l2] 3) := by
    rw [wq_spec_l24Start_10, u_spec_l24Start_10, dec_t (by decide), cond_true, show idx [p0, p1, p2, p3] (2 : Int) = some p2 from rfl, Option.bind_some, show idx [p0, p1, p2, p3] (Int.tmod (IntKind.wrap IntKind.i64 ((2 : Int) + 1)) 4) = some p3 from rfl, Option.bind_some, h2, Option.bind_some]; kernel_rfl
  have e3 : w_spec_l24Start_10 (m_spec_l24Start_10 [p0, p1, p2, p3] nms [ptI (b1 97) p0, ptI (b1 98) p1, ptI (b1 99) p2, ptI (b1 100) p3, lnI (b1 97 ++ b1 98) l0, lnI (b1 98 ++ b1 99) l1, lnI (b1 99 ++ b1 100) l2] 3) = w_spec_l24Start_10 (m_spec_l24Start_10 [p0, p1, p2, p3] nms [ptI (b1 97) p0, ptI (b1 98) p1, ptI (b1 99) p2, ptI (b1 100) p3, lnI (b1 97 ++ b1 98) l0, lnI (b1 98 ++ b1 99) l1, lnI (b1 99 ++ b1 100) l2, lnI (b1 100 ++ b1 97) l3] 4) := by
    rw [wq_spec_l24Start_10, u_spec_l24Start_10, dec_t (by decide), cond_true, show idx [p0, p1, p2, p3] (3 : Int) = some p3 from rfl, Option.bind_some, show idx [p0, p1, p2, p3] (Int.tmod (IntKind.wrap IntKind.i64 ((3 : Int) + 1)) 4) = some p0 from rfl, Option.bind_some, h3, Option.bind_some]; kernel_rfl
  rw [e0, e1, e2, e3, wq_spec_l24Start_10]; rfl

theorem impl_loop (p0 p1 p2 p3 : Pt) (l0 l1 l2 l3 : Ln) (c0 c1 c2 c3 : Bool) (h0 : g_impl_sideLine p0 p1 = some (l0, c0)) (h1 : g_impl_sideLine p1 p2 = some (l1, c1)) (h2 : g_impl_sideLine p2 p3 = some (l2, c2)) (h3 : g_impl_sideLine p3 p0 = some (l3, c3)) : w_impl_StartItems_8 (m_impl_StartItems_8 [p0, p1, p2, p3] (ByteArray.mk (Array.mk [97, 98, 99, 100])) [] [] [p0, p1, p2, p3] 4 0) = some (.inl (d_impl_StartItems_8_0 [ptI (b1 97) p0, ptI (b1 98) p1, ptI (b1 99) p2, ptI (b1 100) p3] [lnI (b1 97 ++ b1 98) l0, lnI (b1 98 ++ b1 99) l1, lnI (b1 99 ++ b1 100) l2, lnI (b1 100 ++ b1 97) l3])) := by
  have e0 : w_impl_StartItems_8 (m_impl_StartItems_8 [p0, p1, p2, p3] (ByteArray.mk (Array.mk [97, 98, 99, 100])) [] [] [p0, p1, p2, p3] 4 0) = w_impl_StartItems_8 (m_impl_StartItems_8 [p0, p1, p2, p3] (ByteArray.mk (Array.mk [97, 98, 99, 100])) [ptI (b1 97) p0] [lnI (b1 97 ++ b1 98) l0] [p0, p1, p2, p3] 4 1) := by
    rw [wq_impl_StartItems_8, u_impl_StartItems_8, dec_t (by decide), cond_true, show idx [p0, p1, p2, p3] (0 : Int) = some p0 from rfl, Option.bind_some, show idx [p0, p1, p2, p3] (Int.tmod (IntKind.wrap IntKind.i64 ((0 : Int) + 1)) 4) = some p1 from rfl, Option.bind_some, h0, Option.bind_some]; kernel_rfl
  have e1 : w_impl_StartItems_8 (m_impl_StartItems_8 [p0, p1, p2, p3] (ByteArray.mk (Array.mk [97, 98, 99, 100])) [ptI (b1 97) p0] [lnI (b1 97 ++ b1 98) l0] [p0, p1, p2, p3] 4 1) = w_impl_StartItems_8 (m_impl_StartItems_8 [p0, p1, p2, p3] (ByteArray.mk (Array.mk [97, 98, 99, 100])) [ptI (b1 97) p0, ptI (b1 98) p1] [lnI (b1 97 ++ b1 98) l0, lnI (b1 98 ++ b1 99) l1] [p0, p1, p2, p3] 4 2) := by
    rw [wq_impl_StartItems_8, u_impl_StartItems_8, dec_t (by decide), cond_true, show idx [p0, p1, p2, p3] (1 : Int) = some p1 from rfl, Option.bind_some, show idx [p0, p1, p2, p3] (Int.tmod (IntKind.wrap IntKind.i64 ((1 : Int) + 1)) 4) = some p2 from rfl, Option.bind_some, h1, Option.bind_some]; kernel_rfl
  have e2 : w_impl_StartItems_8 (m_impl_StartItems_8 [p0, p1, p2, p3] (ByteArray.mk (Array.mk [97, 98, 99, 100])) [ptI (b1 97) p0, ptI (b1 98) p1] [lnI (b1 97 ++ b1 98) l0, lnI (b1 98 ++ b1 99) l1] [p0, p1, p2, p3] 4 2) = w_impl_StartItems_8 (m_impl_StartItems_8 [p0, p1, p2, p3] (ByteArray.mk (Array.mk [97, 98, 99, 100])) [ptI (b1 97) p0, ptI (b1 98) p1, ptI (b1 99) p2] [lnI (b1 97 ++ b1 98) l0, lnI (b1 98 ++ b1 99) l1, lnI (b1 99 ++ b1 100) l2] [p0, p1, p2, p3] 4 3) := by
    rw [wq_impl_StartItems_8, u_impl_StartItems_8, dec_t (by decide), cond_true, show idx [p0, p1, p2, p3] (2 : Int) = some p2 from rfl, Option.bind_some, show idx [p0, p1, p2, p3] (Int.tmod (IntKind.wrap IntKind.i64 ((2 : Int) + 1)) 4) = some p3 from rfl, Option.bind_some, h2, Option.bind_some]; kernel_rfl
  have e3 : w_impl_StartItems_8 (m_impl_StartItems_8 [p0, p1, p2, p3] (ByteArray.mk (Array.mk [97, 98, 99, 100])) [ptI (b1 97) p0, ptI (b1 98) p1, ptI (b1 99) p2] [lnI (b1 97 ++ b1 98) l0, lnI (b1 98 ++ b1 99) l1, lnI (b1 99 ++ b1 100) l2] [p0, p1, p2, p3] 4 3) = w_impl_StartItems_8 (m_impl_StartItems_8 [p0, p1, p2, p3] (ByteArray.mk (Array.mk [97, 98, 99, 100])) [ptI (b1 97) p0, ptI (b1 98) p1, ptI (b1 99) p2, ptI (b1 100) p3] [lnI (b1 97 ++ b1 98) l0, lnI (b1 98 ++ b1 99) l1, lnI (b1 99 ++ b1 100) l2, lnI (b1 100 ++ b1 97) l3] [p0, p1, p2, p3] 4 4) := by
    rw [wq_impl_StartItems_8, u_impl_StartItems_8, dec_t (by decide), cond_true, show idx [p0, p1, p2, p3] (3 : Int) = some p3 from rfl, Option.bind_some, show idx [p0, p1, p2, p3] (Int.tmod (IntKind.wrap IntKind.i64 ((3 : Int) + 1)) 4) = some p0 from rfl, Option.bind_some, h3, Option.bind_some]; kernel_rfl
  rw [e0, e1, e2, e3, wq_impl_StartItems_8]; rfl

/-- What StartItems gives. -/
def strt (s : Int) : List It × Int := cond (decide (1 ≤ s) && decide (s ≤ 1000)) (items (wh 0, wh 0) (wh s, wh 0) (wh s, wh s) (wh 0, wh s) (lnN (wh 0, wh 0) 0) (lnN (wh s, wh 0) 4) (lnN (wh s, wh s) 0) (lnN (wh 0, wh s) 4), 0) ([], 2)

theorem spec_start (s : Int) : g_spec_StartItems s = some (strt s) := by
  rw [g_spec_StartItems, t_spec_StartItems, in_spec, Option.bind_some]
  unfold strt
  cases hc : (decide (1 ≤ s) && decide (s ≤ 1000))
  · rfl
  · simp only [Bool.and_eq_true, decide_eq_true_eq] at hc
    have h := chk_ok hc.1 hc.2
    simp only [chk, Bool.and_eq_true] at h
    rw [Bool.not_true, cond_false, g_spec_l24Start, t_spec_l24Start, g_spec_l03Square, t_spec_l03Square, Option.bind_some]
    have ha := spec_pts (wh 0, wh 0) (wh s, wh 0) (wh s, wh s) (wh 0, wh s)
    have hb := spec_lines (wh 0, wh 0) (wh s, wh 0) (wh s, wh s) (wh 0, wh s) _ _ _ _ (spec_side h.1) (spec_side h.2.1) (spec_side h.2.2.1) (spec_side h.2.2.2)
    refine Eq.trans (congrArg (fun o => Option.bind (Option.bind o _) _) ha) ?_
    simp only [Option.bind_some, exC]
    refine Eq.trans (congrArg (fun o => Option.bind (Option.bind o _) _) hb) ?_
    rfl

theorem impl_start (s : Int) : g_impl_StartItems s = some (strt s) := by
  rw [g_impl_StartItems, t_impl_StartItems, g_impl_SquarePaper, t_impl_SquarePaper, in_impl, Option.bind_some]
  unfold strt
  cases hc : (decide (1 ≤ s) && decide (s ≤ 1000))
  · rfl
  · simp only [Bool.and_eq_true, decide_eq_true_eq] at hc
    have h := chk_ok hc.1 hc.2
    simp only [chk, Bool.and_eq_true] at h
    have hb := impl_loop (wh 0, wh 0) (wh s, wh 0) (wh s, wh s) (wh 0, wh s) _ _ _ _ _ _ _ _ (impl_side h.1) (impl_side h.2.1) (impl_side h.2.2.1) (impl_side h.2.2.2)
    rw [Bool.not_true, cond_false, g_impl_whole, t_impl_whole, g_impl_whole, t_impl_whole, Option.bind_some, Option.bind_some, Option.bind_some]
    refine Eq.trans (congrArg (fun o => Option.bind o _) hb) ?_
    kernel_rfl

end Go.Proofs.YtooaomcmhgpbpaaDoor
