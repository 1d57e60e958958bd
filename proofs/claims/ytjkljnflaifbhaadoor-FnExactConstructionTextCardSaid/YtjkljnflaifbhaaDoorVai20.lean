/- A lemma text on a verified interpreter without memory (part Vai20). No conditions. -/
import Derived.Test.YtjkljnflaifbhaaDoorVai19
/- VAI 20: WHOLE CALLS. -/
namespace Go.Vai
open Go

section
variable {C : Ctx} {E : Entry} {g : Gh} {st : St} {tm : Array Value} {w : World} {Q : Type}

def resRun (tmps : Array Value) : ResultVar → Sem Value
  | .tmp t => pure (tmps.getD t undef)
  | .cell a t => do loadVar t (← asAddr (tmps.getD a undef))

theorem resAV_ok {a : Act} (R : Rel C E g st a.tmps w) {rv : ResultVar} {x : AV} (h : resAV C st rv = some x) : ∃ v, (resRun a.tmps rv).run C.P w = .ok v w ∧ NAV g w x v := by
  cases rv with
  | tmp i =>
    simp only [resAV, Option.some.injEq] at h
    subst h
    exact ⟨_, rfl, opd_rel R (.tmp i)⟩
  | cell i T =>
    have hr := opd_rel R (.tmp i)
    have h : aLoad C st T (st.opd (.tmp i)) some = some x := h
    obtain ⟨av, v, h1, h2, h3⟩ := aLoad_ok R hr h
    simp only [Option.some.injEq] at h1
    subst h1
    refine ⟨v, ?_, h3⟩
    simp only [resRun, Sem.run_bind]
    have he : a.tmps.getD i undef = a.eval (.tmp i) := rfl
    rw [he]
    simp only [Instr.loadAt, Sem.run_bind] at h2
    cases hv : a.eval (.tmp i) with
    | pointer p =>
      rw [hv] at h2
      cases p with
      | none => simp [Instr.sureAddr] at h2
      | some p => simpa [Instr.sureAddr, asAddr] using h2
    | _ => rw [hv] at h2; simp [Instr.sureAddr] at h2

theorem Stole.trans {g g1 g2 : Gh} {S1 S2 : List Nat} (h1 : Stole g g1 S1) (h2 : Stole g1 g2 S2) : Stole g g2 (S1 ++ S2) := by
  refine ⟨h2.bx.trans h1.bx, fun n => ?_, fun n hn => ?_⟩
  · rcases h2.lab n with e2 | ⟨p, o, l, c, e2, e3⟩
    · rcases h1.lab n with e1 | ⟨p, o, l, c, e1, e1'⟩
      · exact .inl (e2.trans e1)
      · exact .inr ⟨p, o, l, c, e1, e2.trans e1'⟩
    · rcases h1.lab n with e1 | ⟨_, _, _, _, e1, e1'⟩
      · exact .inr ⟨p, o, l, c, e1.symm.trans e2, e3⟩
      · rw [e1'] at e2; cases e2
  · rcases List.mem_append.1 hn with hn | hn
    · exact h1.own n hn
    · obtain ⟨p, o, l, c, e⟩ := h2.own n hn
      rcases h1.lab n with e1 | ⟨_, _, _, _, _, e1'⟩
      · exact ⟨p, o, l, c, e1.symm.trans e⟩
      · rw [e1'] at e; cases e

theorem Stole.junk {g g1 : Gh} {S : List Nat} (h : Stole g g1 S) {n : Nat} (hn : g.lab n = .junk) : g1.lab n = .junk := by
  rcases h.lab n with e | ⟨_, _, _, _, e, _⟩
  · exact e.trans hn
  · rw [hn] at e; cases e

theorem Free.two {g g1 : Gh} {S1 S2 : List Nat} (F1 : Free g w S1) (F2 : Free g1 w S2) (h : Stole g g1 S2) : Free g1 w (S1 ++ S2) := by
  refine ⟨List.nodup_append.2 ⟨F1.nodup, F2.nodup, ?_⟩, fun b hb => ?_, fun b hb => ?_⟩
  · rintro a ha b hb rfl
    obtain ⟨_, _, _, _, e⟩ := h.own a hb
    rw [F1.junk a ha] at e; cases e
  · rcases List.mem_append.1 hb with hb | hb
    · exact h.junk (F1.junk b hb)
    · exact F2.junk b hb
  · rcases List.mem_append.1 hb with hb | hb
    · exact F1.size b hb
    · exact F2.size b hb

theorem results_ok {a : Act} : ∀ (rs : List ResultVar) (g : Gh) (st : St) (l : List Val) (st' : St), Rel C E g st a.tmps w → resultsOf C rs st = some (l, st') →
    ∃ vals ms g', (rs.mapM (resRun a.tmps)).run C.P w = .ok vals w ∧ Rel C E g' st' a.tmps w ∧ FVs g' w l vals ms ∧ Free g' w (somes ms) ∧ Stole g g' (somes ms) ∧ (l.all fun x => x.cs.all CV.lasts) = true
  | [], g, st, l, st', R, h => by
    simp only [resultsOf, Option.some.injEq, Prod.mk.injEq] at h
    obtain ⟨rfl, rfl⟩ := h
    exact ⟨[], [], g, rfl, R, ⟨rfl, rfl⟩, Free.nil, ⟨rfl, fun _ => .inl rfl, fun _ h => (List.not_mem_nil h).elim⟩, rfl⟩
  | rv :: rs, g, st, l, st', R, h => by
    simp only [resultsOf] at h
    split at h
    · rename_i x hx
      split at h
      · rename_i l' st'' hl
        simp only [Option.some.injEq, Prod.mk.injEq] at h
        obtain ⟨rfl, rfl⟩ := h
        obtain ⟨v, h1, h2⟩ := resAV_ok R hx
        obtain ⟨g1, ms1, R1, F1, Fr1, L1⟩ := NV.stolen (v := x) R h2
        obtain ⟨vals, ms2, g2, h3, R2, F2, Fr2, L2, hla⟩ := results_ok rs g1 _ l' st'' R1 hl
        refine ⟨v :: vals, ms1 ++ ms2, g2, ?_, R2, ⟨v, vals, ms1, ms2, rfl, rfl, ?_, F2⟩, ?_, ?_, ?_⟩
        · simp only [List.mapM_cons, Sem.run_bind, h1, Result.andThen_ok, h3, Sem.run_pure]
        · exact FV.imp' (P := CV.lasts) (fun c v m hc h => h.steal L2 hc) (steal_lasts _ _ _) F1
        · rw [somes_append]; exact Fr1.two Fr2 L2
        · rw [somes_append]; exact L1.trans L2
        · simp only [List.all_cons, hla, Bool.and_true]; exact steal_lasts _ _ _
      · cases h
    · cases h

theorem results_run {fn : Func} {tmps : Array Value} {vals : List Value} (h : (fn.results.toList.mapM (resRun tmps)).run C.P w = .ok vals w) :
    (results fn tmps).run C.P w = .ok (match vals with | [x] => x | l => .tuple l.toArray) w := by
  have hm : (fn.results.mapM (resRun tmps)).run C.P w = .ok vals.toArray w := by
    rw [Array.mapM_eq_mapM_toList]
    simp only [map_eq_pure_bind, Sem.run_bind, h, Result.andThen_ok, Sem.run_pure]
  have hr : results fn tmps = (do let vs ← fn.results.mapM (resRun tmps); pure (if h : vs.size = 1 then vs[0] else .tuple vs)) := by
    unfold results
    congr 1
  rw [hr]
  simp only [Sem.run_bind, hm, Result.andThen_ok, Sem.run_pure]
  match vals with
  | [] => rfl
  | [x] => rfl
  | x :: y :: r => simp

theorem FVs.imp'' {g g' : Gh} {w' : World} {P : CV → Bool} (H : ∀ c v m, P c = true → FRel g w c v m → FRel g' w' c v m) {l : List Val} {vs : List Value} {ms : List (Option Nat)}
    (ha : (l.all fun x => x.cs.all P) = true) (h : FVs g w l vs ms) : FVs g' w' l vs ms := FVs.imp' H ha h

theorem finish_ok {a : Act} (R : Rel C E g st a.tmps w) {fn : Func} {k : AV → List CV → Option Q} {r : Q} (h : finish C fn st k = some r) :
    ∃ av cs v g' ms bms, k av cs = some r ∧ (results fn a.tmps).run C.P w = .ok v w ∧ FAV g' w av v ms ∧ FsRel g' w cs E.io bms ∧ Free g' w (somes bms ++ somes ms) ∧ Kept E g' w ∧ (∀ n, g'.lab n ≠ .junk → n < w.heap.size) := by
  unfold finish at h
  split at h
  · rename_i l st1 hl
    obtain ⟨vals, ms, g1, h1, R1, F1, Fr1, L1, hla⟩ := results_ok _ g st l st1 R hl
    obtain ⟨g2, bms, R2, F2, Fr2, L2⟩ := steal_sound (lends .arg 0 st1.io) [] st1 g1 E.io R1 (NsRel.lends R1.io).ls
    refine ⟨_, _, _, g2, ms, bms, h, results_run h1, ?_, F2, ?_, R2.kept, R2.size⟩
    · have hF := FVs.imp' (P := CV.lasts) (fun c v m hc h => h.steal L2 hc) hla F1
      match l, vals, hF with
      | [], [], hF => exact ⟨_, rfl, hF⟩
      | [x], [v], hF =>
        obtain ⟨v', vs', m, ms', hv, rfl, h2, h3⟩ := hF
        simp only [List.cons.injEq] at hv
        obtain ⟨rfl, rfl⟩ := hv
        obtain ⟨_, rfl⟩ := h3
        rw [List.append_nil]; exact h2
      | x :: y :: r, u :: v :: vs, hF => exact ⟨_, rfl, hF⟩
      | [], _ :: _, hF => exact absurd hF.1 (by simp)
      | [x], [], hF => obtain ⟨v', vs', m, ms', hv, _⟩ := hF; cases hv
      | [x], _ :: _ :: _, hF => obtain ⟨v', vs', m, ms', hv, _, _, h3⟩ := hF; simp only [List.cons.injEq] at hv; obtain ⟨_, rfl⟩ := hv; exact absurd h3.1 (by simp)
      | x :: y :: r, [], hF => obtain ⟨v', vs', m, ms', hv, _⟩ := hF; cases hv
      | x :: y :: r, [v], hF => obtain ⟨v', vs', m, ms', hv, _, _, h3⟩ := hF; simp only [List.cons.injEq] at hv; obtain ⟨_, rfl⟩ := hv; obtain ⟨_, _, _, _, h4, _⟩ := h3; cases h4
    · have := Fr1.two Fr2 L2
      exact ⟨List.nodup_append.2 ⟨Fr2.nodup, Fr1.nodup, fun a ha b hb e => (List.nodup_append.1 this.nodup).2.2 b hb a ha e.symm⟩,
        fun b hb => this.junk b (List.mem_append.2 ((List.mem_append.1 hb).symm)), fun b hb => this.size b (List.mem_append.2 ((List.mem_append.1 hb).symm))⟩
  · cases h

/-- A CONTRACT HOLDS, if the interpreter without memory says so. -/
theorem Sound.of_run {fid : FuncId} {f : Func} {code : Code} {c : Contract} (hf : C.P.funcs[fid]? = some f) (hb : f.body = some code) (hname : (f.name == "runtime.NumGoroutine") = false)
    (hm : C.P.follows .mixedOrders = true) (hS : ∀ f c, C.ρ f = some c → Sound C f c)
    (hrun : ∀ bs vs x, c.G bs vs = some x → ∃ (h : Hints (AV × List CV)) (fuel : Nat), HintsOk C ⟨f.ntmps, f.ntmps + bs.length⟩ h fuel (loops code) ∧ runF C h fuel f c.io bs vs (fun a cs => some (a, cs)) = some (c.enc x)) :
    Sound C fid c := by
  refine ⟨⟨f, code, hf, hb, hname⟩, fun g0 w bs vs args ms x hP hG => ?_⟩
  obtain ⟨h, fuel, hH, hr⟩ := hrun bs vs x hG
  unfold runF at hr
  rw [hb] at hr
  simp only at hr
  split at hr
  · rename_i hcond
    simp only [Bool.and_eq_true, decide_eq_true_eq] at hcond
    obtain ⟨g, R⟩ := init_rel hP hcond.1 hcond.2
    refine calls_of_wp hf hb (den_sound (E := ⟨w, g0.lab, pickIO c.io args, f.ntmps, f.ntmps + bs.length⟩) (D := []) rfl hm hS code hH _ _ g _ _ w hr R rfl ?_)
    have fin : ∀ g st (a : Act) w', finish C f st (fun a cs => some (a, cs)) = some (c.enc x) → Rel C ⟨w, g0.lab, pickIO c.io args, f.ntmps, f.ntmps + bs.length⟩ g st a.tmps w' → a.defers = [] →
        a.defers = [] ∧ ∃ v, (results f a.tmps).run C.P w' = .ok v w' ∧ ∃ v', Ending.returned v = .returned v' ∧ Ret g0 w (somes ms) (c.enc x).2 (pickIO c.io args) (c.enc x).1 v' w' := by
      intro g st a w' hfin R hD
      obtain ⟨av, cs, v, g', ms', bms, h1, h2, h3, h4, h5, h6, h7⟩ := finish_ok R hfin
      simp only [Option.some.injEq] at h1
      refine ⟨hD, v, h2, v, rfl, g', ms', bms, by rw [← h1]; exact h3, by rw [← h1]; exact h4, h5, ?_, h6.os, h6.tape, h6.output, h6.size, ?_, h6.immB, fun n hn => h7 n (by rw [hn]; simp)⟩
      · intro b hb
        rcases Nat.lt_or_ge b w.heap.size with hlt | hge
        · right
          have hj := h5.junk b (List.mem_append_right _ hb)
          rcases hP.old b hlt with h | h | h
          · rw [(h6.imm b hlt h).1] at hj; cases hj
          · rw [(h6.far b hlt h).1] at hj; cases hj
          · exact h.2
        · exact .inl hge
      · intro n hlt hn
        rcases hP.old n hlt with h | h | h
        · exact (h6.imm n hlt h).2
        · exact (h6.far n hlt h).2
        · exact absurd h.2 hn
    intro e g st a w' hk R' hD'
    cases e with
    | normal => exact fin g st a w' hk R' hD'
    | ret => exact fin g st a w' hk R' hD'
    | exit id => cases hk
  · cases hr

theorem FsRel.forget {g : Gh} {w : World} : ∀ {cs : List CV} {vs : List Value} {ms : List (Option Nat)}, FsRel g w cs vs ms → FsRel g w (cs.map fun _ => .undef) vs (ms.map fun _ => none)
  | [], _, _, h => by obtain ⟨rfl, rfl⟩ := h; exact ⟨rfl, rfl⟩
  | c :: r, _, _, h => by
    obtain ⟨v, vs', m, ms', rfl, rfl, h1, h2⟩ := h
    exact ⟨v, vs', none, ms'.map fun _ => none, rfl, rfl, ⟨rfl, fun _ => trivial⟩, h2.forget⟩

theorem somes_none : ∀ (ms : List (Option Nat)), somes (ms.map fun _ => none) = []
  | [] => rfl
  | _ :: r => by simp only [List.map_cons, somes]; exact somes_none r

/-- A contract of a function that takes what is lent for good. -/
theorem Sound.of_runTake {fid : FuncId} {f : Func} {code : Code} {c : Contract} (hf : C.P.funcs[fid]? = some f) (hb : f.body = some code) (hname : (f.name == "runtime.NumGoroutine") = false)
    (hm : C.P.follows .mixedOrders = true) (hS : ∀ f c, C.ρ f = some c → Sound C f c)
    (hrun : ∀ bs vs x, c.G bs vs = some x → ∃ (h : Hints (AV × List CV)) (fuel : Nat), HintsOk C ⟨f.ntmps, f.ntmps + bs.length⟩ h fuel (loops code) ∧ runF C h fuel f c.io bs vs (fun a cs => some (a, cs.map fun _ => .undef)) = some (c.enc x)) :
    Sound C fid c := by
  refine ⟨⟨f, code, hf, hb, hname⟩, fun g0 w bs vs args ms x hP hG => ?_⟩
  obtain ⟨h, fuel, hH, hr⟩ := hrun bs vs x hG
  unfold runF at hr
  rw [hb] at hr
  simp only at hr
  split at hr
  · rename_i hcond
    simp only [Bool.and_eq_true, decide_eq_true_eq] at hcond
    obtain ⟨g, R⟩ := init_rel hP hcond.1 hcond.2
    refine calls_of_wp hf hb (den_sound (E := ⟨w, g0.lab, pickIO c.io args, f.ntmps, f.ntmps + bs.length⟩) (D := []) rfl hm hS code hH _ _ g _ _ w hr R rfl ?_)
    have fin : ∀ g st (a : Act) w', finish C f st (fun a cs => some (a, cs.map fun _ => .undef)) = some (c.enc x) → Rel C ⟨w, g0.lab, pickIO c.io args, f.ntmps, f.ntmps + bs.length⟩ g st a.tmps w' → a.defers = [] →
        a.defers = [] ∧ ∃ v, (results f a.tmps).run C.P w' = .ok v w' ∧ ∃ v', Ending.returned v = .returned v' ∧ Ret g0 w (somes ms) (c.enc x).2 (pickIO c.io args) (c.enc x).1 v' w' := by
      intro g st a w' hfin R hD
      obtain ⟨av, cs, v, g', ms', bms, h1, h2, h3, h4, h5, h6, h7⟩ := finish_ok R hfin
      simp only [Option.some.injEq] at h1
      refine ⟨hD, v, h2, v, rfl, g', ms', bms.map fun _ => none, by rw [← h1]; exact h3, by rw [← h1]; exact h4.forget, by rw [somes_none]; exact ⟨(List.nodup_append.1 h5.nodup).2.1, fun b hb => h5.junk b (List.mem_append_right _ hb), fun b hb => h5.size b (List.mem_append_right _ hb)⟩, ?_, h6.os, h6.tape, h6.output, h6.size, ?_, h6.immB, fun n hn => h7 n (by rw [hn]; simp)⟩
      · intro b hb
        rcases Nat.lt_or_ge b w.heap.size with hlt | hge
        · right
          have hj := h5.junk b (List.mem_append_right _ hb)
          rcases hP.old b hlt with h | h | h
          · rw [(h6.imm b hlt h).1] at hj; cases hj
          · rw [(h6.far b hlt h).1] at hj; cases hj
          · exact h.2
        · exact .inl hge
      · intro n hlt hn
        rcases hP.old n hlt with h | h | h
        · exact (h6.imm n hlt h).2
        · exact (h6.far n hlt h).2
        · exact absurd h.2 hn
    intro e g st a w' hk R' hD'
    cases e with
    | normal => exact fin g st a w' hk R' hD'
    | ret => exact fin g st a w' hk R' hD'
    | exit id => cases hk
  · cases hr

end
end Go.Vai
