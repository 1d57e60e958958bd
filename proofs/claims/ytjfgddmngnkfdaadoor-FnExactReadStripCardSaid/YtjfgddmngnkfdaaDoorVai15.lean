/- A lemma text on a verified interpreter without memory (part Vai15). No conditions. -/
import Derived.Test.YtjfgddmngnkfdaaDoorVai14
/- VAI 15: ONE OPERATION. -/
namespace Go.Vai
open Go

section
variable {C : Ctx} {E : Entry} {g : Gh} {st : St} {a : Act} {w : World} {Q : Type}

theorem opds_rel (R : Rel C E g st a.tmps w) : ∀ l : List Operand, NAVs g w (l.map st.opd) (l.map a.eval)
  | [] => rfl
  | x :: r => ⟨_, _, rfl, opd_rel R x, opds_rel R r⟩

theorem argAVs_rel (R : Rel C E g st a.tmps w) : ∀ (l : List Operand) (ts : List TypeId), NAVs g w (st.argAVs C.P l ts) (l.map a.eval)
  | [], _ => rfl
  | x :: r, T :: ts => ⟨_, _, rfl, opdT_rel R T x, argAVs_rel R r ts⟩
  | x :: r, [] => ⟨_, _, rfl, opd_rel R x, argAVs_rel R r []⟩

theorem opt_rel (R : Rel C E g st a.tmps w) (x : Option Operand) : NOpt g w (x.map st.opd) (x.map a.eval) := by
  cases x with
  | none => exact trivial
  | some x => exact opd_rel R x

/-- What an operation that writes into no variable leads to. -/
def Goes (C : Ctx) (E : Entry) (st : St) (a : Act) (o : Oper) (w : World) {Q : Type} (k : AV → Option Q) (r : Q) : Prop :=
  ∀ (next : Act → World → Prop) (X : Exit → Act → World → Prop), (∀ av v g' ms w', k av = some r → Rel C E g' st a.tmps w' → FAV g' w' av v ms → Free g' w' (somes ms) → next (a.put o.dst v) w') → o.wp C.P a w next X

theorem FOk.goes (R : Rel C E g st a.tmps w) {o : Oper} {s : Sem Value} {k : AV → Option Q} {r : Q} (he : (execOp a.eval o).run C.P w = (do pure (.value (← s)) : Sem Next).run C.P w) (h : FOk C g w s k r) : Goes C E st a o w k r := by
  intro next X hn
  obtain ⟨av, v, w', ms, h1, h2, h3, h4, h5⟩ := h
  have : (execOp a.eval o).run C.P w = .ok (.value v) w' := by rw [he]; simp [h2]
  unfold Oper.wp
  rw [this, Oper.upon_value]
  exact hn av v g ms w' h1 (R.grow h3) h4 h5

theorem QOk.goes (R : Rel C E g st a.tmps w) {o : Oper} {s : Sem Value} {k : AV → Option Q} {r : Q} (he : (execOp a.eval o).run C.P w = (do pure (.value (← s)) : Sem Next).run C.P w) (h : QOk C g w s k r) : Goes C E st a o w k r :=
  FOk.goes R he h.f

theorem aop_ok (R : Rel C E g st a.tmps w) (hS : ∀ f c, C.ρ f = some c → Sound C f c) {o : Oper} {k : AV → Option Q} {r : Q} (h : aop C st o k = some r) : Goes C E st a o w k r := by
  have hd : ∀ x, NAV g w (st.opd x) (a.eval x) := opd_rel R
  have hT : ∀ T x, NAV g w (st.opdT C.P T x) (a.eval x) := opdT_rel R
  unfold aop at h
  split at h
  · rename_i x ho
    exact QOk.goes (s := pure (a.eval x)) R (by simp only [execOp, ho, Sem.run_bind, Sem.run_pure, Result.andThen_ok]) ⟨_, _, h, rfl, hT _ x⟩
  · rename_i c x y ho
    have := aPick_ok (C := C) (hd c) (hd x) (hd y) h
    refine QOk.goes R (s := do pure (if ← asBool (a.eval c) then a.eval x else a.eval y)) (by simp only [execOp, ho]; rw [Sem.run_bind, Sem.run_bind, Sem.run_bind]; cases (asBool (a.eval c)).run C.P w <;> rfl) this
  · rename_i t x ho
    exact QOk.goes R (by simp only [execOp, ho]) (aLoad_ok R (hd x) h)
  · rename_i x ho
    obtain ⟨av, h1, h2, ad, h3⟩ := aNil_ok (hd x) h
    exact QOk.goes (s := pure (a.eval x)) R (by simp only [execOp, ho, h3, Sem.run_bind, Sem.run_pure, Result.andThen_ok]) ⟨_, _, h1, rfl, h2⟩
  · rename_i op t x y e ho
    exact QOk.goes R (by simp only [execOp, ho]) (aBin_ok x y (eqOpd_rel R t x) (eqOpd_rel R t y) h)
  · rename_i op e x ho
    exact QOk.goes R (by simp only [execOp, ho]) (aUn_ok (hd x) h)
  · rename_i s d x ho
    exact QOk.goes R (by simp only [execOp, ho]) (aConv_ok (hd x) h)
  · rename_i t x f ho
    exact QOk.goes R (by simp only [execOp, ho]) (aFieldAddr_ok (hd x) h)
  · rename_i t x f ho
    exact QOk.goes R (by simp only [execOp, ho]) (aField_ok (hd x) h)
  · rename_i t x i ho
    exact QOk.goes R (by simp only [execOp, ho]) (aIndexG_ok R (hd x) (hd i) h)
  · rename_i t x i ho
    exact QOk.goes R (by simp only [execOp, ho]) (aIndex_ok (hd x) (hd i) h)
  · rename_i t x lo hi mx ho
    exact QOk.goes R (by simp only [execOp, ho]) (aSlice_ok (hd x) (opt_rel R lo) (opt_rel R hi) (opt_rel R mx) h)
  · rename_i t ps ho
    refine QOk.goes R (by simp only [execOp, ho]) (aBuild_ok (vs := ps.map fun (i, x) => (i, a.eval x)) ?_ ?_ h)
    · simp
    · have := opds_rel R (ps.toList.map (·.2))
      simpa [Function.comp_def] using this
  · rename_i t n ps ho
    refine FOk.goes R (by simp only [execOp, ho]) (aBuildSlice_ok R (vs := ps.map fun (i, x) => (i, a.eval x)) ?_ ?_ h)
    · simp
    · have := opds_rel R (ps.toList.map (·.2))
      simpa [Function.comp_def] using this
  · rename_i t n c ho
    exact FOk.goes R (by simp only [execOp, ho]) (aMakeSlice_ok R (hd n) (hd c) h)
  · rename_i x i ho
    exact QOk.goes R (by simp only [execOp, ho]) (aExtract_ok (hd x) h)
  · rename_i f x y ho
    refine QOk.goes R (by simp only [execOp, ho]) (aMakeFunc_ok (va := x.map a.eval) (vb := y.map a.eval) ?_ ?_ h)
    · simpa using opds_rel R x.toList
    · simpa using opds_rel R y.toList
  · rename_i c ho
    split at h
    · -- a function
      rename_i f hc
      obtain ⟨fid, cvs, h1, h2, h3⟩ := aCall_ok R hS (hd f) (argAVs_rel R c.args.toList c.argTypes.toList) h
      have hargs : (c.args.toList.map a.eval).toArray = c.args.map a.eval := by apply Array.ext'; simp
      rw [hargs] at h3
      intro next X hn
      have hrun : (execOp a.eval o).run C.P w = .ok (.enter fid (c.args.map a.eval ++ cvs)) w := by
        simp only [execOp, ho, resolve, hc, h1, Deferred.ofValue, Sem.run_bind, Sem.run_pure, Result.andThen_ok, invoke, Array.empty_append, Enters.run h2]
      unfold Oper.wp
      rw [hrun, Oper.upon_enter]
      refine h3.mono ?_
      rintro e w' ⟨v, av, g', ms, rfl, k1, k2, k3, k4⟩
      exact hn av v g' ms w' k1 k2 k3 k4
    · rename_i hc
      split at h
      · rename_i x hx
        have hx' : c.args = #[x] := by apply Array.ext'; simpa using hx
        refine QOk.goes R ?_ (aLen_ok (hd x) h o.type c.argTypes rfl)
        simp only [execOp, ho, resolve, hc, hx', Sem.run_bind, Sem.run_pure, Result.andThen_ok, invoke, builtin, List.map_toArray, List.map_cons, List.map_nil]
      · cases h
    · rename_i hc
      split at h
      · rename_i x hx
        have hx' : c.args = #[x] := by apply Array.ext'; simpa using hx
        refine QOk.goes R ?_ (aCap_ok (at' := c.argTypes) rfl o.type (hd x) h)
        simp only [execOp, ho, resolve, hc, hx', Sem.run_bind, Sem.run_pure, Result.andThen_ok, invoke, builtin, List.map_toArray, List.map_cons, List.map_nil]
      · cases h
    · rename_i hc
      refine QOk.goes R ?_ (aMax_ok (mx := true) (vs := c.args.map a.eval) (by simpa using opds_rel R c.args.toList) h c.argTypes o.type)
      simp only [execOp, ho, resolve, hc, Sem.run_bind, Sem.run_pure, Result.andThen_ok, invoke, builtin, if_true]
    · rename_i hc
      refine QOk.goes R ?_ (aMax_ok (mx := false) (vs := c.args.map a.eval) (by simpa using opds_rel R c.args.toList) h c.argTypes o.type)
      simp only [execOp, ho, resolve, hc, Sem.run_bind, Sem.run_pure, Result.andThen_ok, invoke, builtin, Bool.false_eq_true, if_false]
    · cases h
  · cases h

end
end Go.Vai
