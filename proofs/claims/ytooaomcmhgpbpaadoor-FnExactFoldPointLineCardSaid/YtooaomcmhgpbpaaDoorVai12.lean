/- A lemma text on a verified interpreter without memory (part Vai12). No conditions. -/
import Derived.Test.YtooaomcmhgpbpaaDoorVai11
/- VAI 12: NEW VARIABLES; ASSIGNMENT; APPENDING. -/
namespace Go.Vai
open Go

section
variable {C : Ctx} {E : Entry} {g : Gh} {st : St} {tm : Array Value} {w : World} {Q : Type}

theorem Rel.newBox (R : Rel C E g st tm w) {d : Nat} {cs : List CV} {vs : Array Value} {ms : List (Option Nat)} (e : TypeId)
    (hb : st.boxes[d]? = some none) (h : FsRel g w cs vs.toList ms) (F : Free g w (somes ms)) :
    ∃ g', Rel C E g' ⟨st.slots, st.boxes.set d (some (false, cs)), st.io⟩ tm { w with heap := w.heap.push (.cells vs e) } ∧ g'.bx d = some w.heap.size := by
  have hd : d < st.boxes.length := (List.getElem?_eq_some_iff.1 hb).1
  have hno : ∀ n, g.bx d ≠ some n := fun n hn => by
    obtain ⟨x, hx⟩ := R.bx d n hn
    rw [hb] at hx; cases hx
  obtain ⟨g1, L, hr⟩ := landCs (w := w) (Place.cell d) (fun i j e => by injection e) cs 0 vs.toList ms g h F (fun j _ n o l c e => by
    obtain ⟨t, x, hx⟩ := R.own n _ o l c e
    simp only [St.atPlace, List.getD_eq_getElem?_getD, hb] at hx
    cases hx)
  have H1 := L.steps F
  have keep : ∀ n, g.lab n ≠ .junk → g1.lab n = g.lab n := by
    intro n hn'
    rcases L.lab n with e | ⟨hm, _⟩
    · exact e
    · exact absurd (F.junk n hm) hn'
  have hnew : g1.lab w.heap.size = .junk := by
    rcases L.lab w.heap.size with e | ⟨hm, _⟩
    · rw [e]; exact R.junk
    · exact absurd (F.size _ hm) (Nat.lt_irrefl _)
  obtain ⟨g', hlab, hbx⟩ : ∃ g' : Gh, (∀ n, g'.lab n = if n = w.heap.size then .box d else g1.lab n) ∧ (∀ b, g'.bx b = if b = d then some w.heap.size else g1.bx b) :=
    ⟨⟨fun n => if n = w.heap.size then .box d else g1.lab n, fun b => if b = d then some w.heap.size else g1.bx b⟩, fun _ => rfl, fun _ => rfl⟩
  have G := Grows.push w (.cells vs e)
  have old : ∀ n, n ≠ w.heap.size → g'.lab n = g1.lab n := fun n hn => by rw [hlab, if_neg hn]
  have ne : ∀ n, g.lab n ≠ .junk → n ≠ w.heap.size := fun n hn e => hn (by rw [e]; exact R.junk)
  have same : ∀ n, g.lab n ≠ .junk → g'.lab n = g.lab n := fun n hn => (old n (ne n hn)).trans (keep n hn)
  have ne1 : ∀ n, g1.lab n ≠ .junk → n ≠ w.heap.size := fun n hn e => hn (by rw [e]; exact hnew)
  have lt1 : ∀ n, g1.lab n ≠ .junk → n < w.heap.size := fun n hn => by
    rcases L.lab n with e' | ⟨hm, _⟩
    · exact R.size n (by rw [← e']; exact hn)
    · exact F.size n hm
  have heap1 : ∀ n, g1.lab n ≠ .junk → (w.heap.push (.cells vs e))[n]? = w.heap[n]? := fun n hn => G.heap n (lt1 n hn)
  have bxs : ∀ b n, g1.bx b = some n → g'.bx b = some n := fun b n hn => by
    rw [L.bx] at hn
    have hbd : b ≠ d := fun e => by subst e; exact hno n hn
    rw [hbx, if_neg hbd, L.bx]; exact hn
  have H2 : Steps' (fun _ => True) (fun _ => True) g1 g' w { w with heap := w.heap.push (.cells vs e) } := {
    imm := fun n hn => ⟨by rw [old n (ne1 n (by rw [hn]; simp)), hn], heap1 n (by rw [hn]; simp)⟩
    own := fun n q o l c _ hn => ⟨by rw [old n (ne1 n (by rw [hn]; simp)), hn], heap1 n (by rw [hn]; simp)⟩
    bx := fun b n _ hn => bxs b n hn }
  have H : Steps' (fun _ => True) (fun _ => True) g g' w { w with heap := w.heap.push (.cells vs e) } := {
    imm := fun n hn => by
      obtain ⟨a, b⟩ := H2.imm n (H1.imm n hn).1
      exact ⟨a, b⟩
    own := fun n q o l c _ hn => by
      obtain ⟨a, b⟩ := H2.own n q o l c trivial (H1.own n q o l c trivial hn).1
      exact ⟨a, b⟩
    bx := fun b n _ hn => bxs b n (by rw [L.bx]; exact hn) }
  refine ⟨g', ?_, by rw [hbx, if_pos rfl]⟩
  exact {
    len := R.len
    lenN := R.lenN
    lenB := by simp [R.lenB]
    io := R.io.mono H
    slots := fun i a hi => by obtain ⟨v, hv, ha⟩ := R.slots i a hi; exact ⟨v, hv, ha.mono H⟩
    boxes := by
      intro b ro cs' hb'
      by_cases he : b = d
      · subst he
        simp only [List.getElem?_set_self hd, Option.some.injEq, Prod.mk.injEq] at hb'
        obtain ⟨rfl, rfl⟩ := hb'
        exact ⟨w.heap.size, vs, e, (0, 0), by rw [hbx, if_pos rfl], by rw [hlab, if_pos rfl], by simp, fun _ => rfl, hr.mono H2⟩
      · simp only [List.getElem?_set_ne (fun e => he e.symm)] at hb'
        obtain ⟨n, vs', e', fz, k1, k2, k3, k4, k5⟩ := R.boxes b ro cs' hb'
        have hj : g.lab n ≠ .junk := by rw [k2]; cases ro <;> simp
        exact ⟨n, vs', e', fz, H.bx b n trivial k1, by rw [same n hj]; exact k2, by rw [show (w.heap.push (.cells vs e))[n]? = w.heap[n]? from G.heap n (R.size n hj)]; exact k3, k4, k5.mono H⟩
    bx := by
      intro b n hn
      by_cases he : b = d
      · subst he; exact ⟨_, List.getElem?_set_self hd⟩
      · rw [hbx, if_neg he, L.bx] at hn
        obtain ⟨x, hx⟩ := R.bx b n hn
        exact ⟨x, by rw [List.getElem?_set_ne (fun e => he e.symm)]; exact hx⟩
    own := by
      intro n p o l c hl
      have hn : n ≠ w.heap.size := fun e => by rw [hlab, if_pos e] at hl; cases hl
      rw [old n hn] at hl
      rcases L.lab n with e' | ⟨_, q, _, _, _, ⟨j, t, x, hq, hj⟩, e'⟩
      · rw [e'] at hl
        obtain ⟨t, x, hx⟩ := R.own n p o l c hl
        refine ⟨t, x, ?_⟩
        cases p with
        | slot i k j => exact hx
        | arg j => exact hx
        | cell b j =>
          have he : b ≠ d := fun e => by
            subst e
            simp only [St.atPlace, List.getD_eq_getElem?_getD, hb] at hx
            cases hx
          simp only [St.atPlace, List.getD_eq_getElem?_getD, List.getElem?_set_ne (fun e => he e.symm)] at hx ⊢
          exact hx
      · rw [hl] at e'; injection e' with e'; subst e'; subst hq
        refine ⟨t, x, ?_⟩
        simp only [St.atPlace, List.getD_eq_getElem?_getD, List.getElem?_set_self hd, Option.getD_some, Nat.zero_add, hj]
    uniq := by
      intro n m p o l c o' l' c' a1 a2
      have n1 : n ≠ w.heap.size := fun e => by rw [hlab, if_pos e] at a1; cases a1
      have n2 : m ≠ w.heap.size := fun e => by rw [hlab, if_pos e] at a2; cases a2
      rw [old n n1] at a1
      rw [old m n2] at a2
      by_cases hp : ∃ j t x, p = Place.cell d (0 + j) ∧ cs[j]? = some (.own t x)
      · exact L.uniq n m p _ _ _ _ _ _ hp a1 a2
      · have back : ∀ n o l c, g1.lab n = .own p o l c → g.lab n = .own p o l c := by
          intro n o l c h
          rcases L.lab n with e | ⟨_, q, o', l', c', hq, e⟩
          · rw [← e]; exact h
          · rw [h] at e; injection e with e; subst e; exact (hp hq).elim
        exact R.uniq n m p _ _ _ _ _ _ (back _ _ _ _ a1) (back _ _ _ _ a2)
    uniqB := by
      intro n b hl
      by_cases hn : n = w.heap.size
      · rw [hlab, if_pos hn] at hl
        injection hl with hl
        subst hl
        rw [hbx, if_pos rfl, hn]
      · rw [old n hn] at hl
        rcases L.lab n with e' | ⟨_, q, _, _, _, _, e'⟩
        · exact H.bx b n trivial (R.uniqB n b (by rw [← e']; exact hl))
        · rw [hl] at e'; cases e'
    size := by
      intro n hl
      simp only [Array.size_push]
      by_cases hn : n = w.heap.size
      · omega
      · rw [old n hn] at hl
        have := lt1 n hl; omega
    glob := by
      intro k cs' hc
      obtain ⟨vs', e', fz, k1, k2, k3⟩ := R.glob k cs' hc
      exact ⟨vs', e', fz, by rw [(H.imm k k2).2]; exact k1, (H.imm k k2).1, k3⟩
    kept := {
      os := R.kept.os
      tape := R.kept.tape
      output := R.kept.output
      size := Nat.le_trans R.kept.size (by simp)
      imm := fun n hn' hl => by
        obtain ⟨k1, k2⟩ := R.kept.imm n hn' hl
        exact ⟨(H.imm n k1).1, by rw [(H.imm n k1).2]; exact k2⟩
      far := fun n hn' hl => by
        obtain ⟨k1, k2⟩ := R.kept.far n hn' hl
        have hj : g.lab n ≠ .junk := by rw [k1]; simp
        exact ⟨(same n hj).trans k1, (G.heap n (R.size n hj)).trans k2⟩
      immB := fun n hn' hl => by
        have hn : n ≠ w.heap.size := fun e => by rw [hlab, if_pos e] at hl; cases hl
        rw [old n hn] at hl
        rcases L.lab n with e' | ⟨_, q, _, _, _, _, e'⟩
        · exact R.kept.immB n hn' (by rw [← e']; exact hl)
        · rw [hl] at e'; cases e' } }

theorem newBox_sound (R : Rel C E g st tm w) {d : Nat} {cs : List CV} {vs : Array Value} {ms : List (Option Nat)} {k : St → Option Q} {r : Q} (e : TypeId)
    (h : FsRel g w cs vs.toList ms) (F : Free g w (somes ms)) (hk : st.newBox d cs k = some r) :
    ∃ g' st', k st' = some r ∧ Rel C E g' st' (tm.setIfInBounds d (.pointer (some ⟨w.heap.size, 0, none⟩))) { w with heap := w.heap.push (.cells vs e) } := by
  unfold St.newBox at hk
  split at hk
  · rename_i hd
    split at hk
    · cases hk
    · split at hk
      · rename_i hb
        have hb' : st.boxes[d]? = some none := by
          rw [List.getD_eq_getElem?_getD, List.getElem?_eq_getElem hd] at hb
          rw [List.getElem?_eq_getElem hd]
          simpa using hb
        obtain ⟨g1, R1, hbx⟩ := R.newBox e hb' h F
        have hF : FAV g1 { w with heap := w.heap.push (.cells vs e) } (.c (.ptr d 0)) (.pointer (some ⟨w.heap.size, 0, none⟩)) [none] :=
          ⟨_, [], none, [], rfl, rfl, ⟨rfl, fun _ => ⟨_, rfl, hbx⟩⟩, rfl, rfl⟩
        exact R1.put hF Free.nil hk
      · cases hk
  · cases hk

theorem NV.stolen (R : Rel C E g st tm w) {v : Val} {vx : Value} (hx : NV g w v vx) :
    ∃ g1 ms, Rel C E g1 (steal [] v.cs st).2 tm w ∧ FV g1 w ⟨v.agg, (steal [] v.cs st).1⟩ vx ms ∧ Free g1 w (somes ms) ∧ Stole g g1 (somes ms) := by
  obtain ⟨vg, vcs⟩ := v
  cases vg with
  | true =>
    obtain ⟨vs, rfl, hv⟩ := hx
    obtain ⟨g1, ms, R1, F1, Fr, L⟩ := steal_sound vcs [] st g _ R hv.ls
    exact ⟨g1, ms, R1, ⟨vs, rfl, F1⟩, Fr, L⟩
  | false =>
    have hv : NsRel g w vcs [vx] := hx
    obtain ⟨g1, ms, R1, F1, Fr, L⟩ := steal_sound vcs [] st g _ R hv.ls
    exact ⟨g1, ms, R1, F1, Fr, L⟩

theorem NV.stolenB (R : Rel C E g st tm w) {v : Val} {vx : Value} (hx : NV g w v vx) :
    ∃ g1 ms, Rel C E g1 (stealB [] v.cs st).2 tm w ∧ FV g1 w ⟨v.agg, (stealB [] v.cs st).1⟩ vx ms ∧ Free g1 w (somes ms) ∧ StoleB g g1 (somes ms) := by
  obtain ⟨vg, vcs⟩ := v
  cases vg with
  | true =>
    obtain ⟨vs, rfl, hv⟩ := hx
    obtain ⟨g1, ms, R1, F1, Fr, L⟩ := stealB_sound vcs [] st g _ R hv.ls (fun _ h => (List.not_mem_nil h).elim)
    exact ⟨g1, ms, R1, ⟨vs, rfl, F1⟩, Fr, L⟩
  | false =>
    have hv : NsRel g w vcs [vx] := hx
    obtain ⟨g1, ms, R1, F1, Fr, L⟩ := stealB_sound vcs [] st g _ R hv.ls (fun _ h => (List.not_mem_nil h).elim)
    exact ⟨g1, ms, R1, F1, Fr, L⟩

theorem aAssign_ok {a : Act} (R : Rel C E g st a.tmps w) {k : St → Option Q} {r : Q} {strict : Bool} {o : Oper} {x : Operand} (h : aAssign C strict st o x k = some r) :
    ∃ d g' st', o.dst = some d ∧ k st' = some r ∧ Rel C E g' st' (a.tmps.setIfInBounds d (a.eval x)) w := by
  unfold aAssign at h
  split at h
  · cases h
  · rename_i d hd
    have hx := opdT_rel R o.type x
    split at h
    · rename_i v hv
      rw [hv] at hx
      split at h
      · split at h
        · obtain ⟨ms, h1, h2⟩ := NV.fs (x := v) hx
          obtain ⟨g', st', h3, h4⟩ := R.put (a := .one v) h1 (by rw [h2]; exact Free.nil) h
          exact ⟨d, g', st', hd, h3, h4⟩
        · cases h
      · obtain ⟨g1, ms, R1, F1, Fr, L⟩ := NV.stolen (v := v) R hx
        obtain ⟨g', st', h3, h4⟩ := R1.put (a := .one ⟨v.agg, (steal [] v.cs st).1⟩) F1 Fr h
        exact ⟨d, g', st', hd, h3, h4⟩
    · cases h

theorem aAlloc_ok (R : Rel C E g st tm w) {k : St → Option Q} {r : Q} {o : Oper} {T : TypeId} (h : aAlloc C st o T k = some r) :
    ∃ d v g' st' w', o.dst = some d ∧ k st' = some r ∧ (Instr.alloc T true (.tuple #[])).run C.P w = .ok v w' ∧ Rel C E g' st' (tm.setIfInBounds d v) w' := by
  unfold aAlloc at h
  split at h
  · rename_i d t hd ht
    obtain ⟨i, z, hi, hz, hs, hf⟩ := ty?_inv ht
    obtain ⟨ms, h1, h2⟩ := (fresh_rel (g := g) (w := w) t _ hf).fs
    obtain ⟨g', st', h3, h4⟩ := newBox_sound R T h1 (by rw [h2]; exact Free.nil) h
    refine ⟨d, _, g', st', _, hd, h3, ?_, h4⟩
    simp only [Instr.alloc, Sem.run_bind, run_zero hi hz, Result.andThen_ok, newVar, newRow, run_newObj, Sem.run_pure]
  · cases h

theorem aBox_ok {a : Act} (R : Rel C E g st a.tmps w) {k : St → Option Q} {r : Q} {o : Oper} {T : TypeId} {x : Operand} (h : aBox C st o T x k = some r) :
    ∃ d v g' st' w', o.dst = some d ∧ k st' = some r ∧ (Instr.box T (a.eval x)).run C.P w = .ok v w' ∧ Rel C E g' st' (a.tmps.setIfInBounds d v) w' := by
  unfold aBox at h
  split at h
  · rename_i d v hd hv
    have hx := opdT_rel R T x
    rw [hv] at hx
    obtain ⟨g1, ms, R1, F1, Fr, L⟩ := NV.stolenB (v := v) R hx
    have hsol : (stealB [] v.cs st).1.all CV.solid = true := by
      unfold St.newBox at h
      split at h
      · cases hc : (stealB [] v.cs st).1.all CV.solid with
        | true => rfl
        | false => rw [hc] at h; cases h
      · cases h
    obtain ⟨g', st', h3, h4⟩ := newBox_sound R1 T (F1.cells hsol) Fr h
    refine ⟨d, _, g', st', _, hd, h3, ?_, h4⟩
    simp only [Instr.box, Sem.run_bind, Result.andThen_ok, newVar, newRow, run_newObj, Sem.run_pure]
  · cases h

theorem aAppend_ok (R : Rel C E g st tm w) {k : St → Option Q} {r : Q} {o : Oper} {T T2 : TypeId} {s x : AV} {vs vx : Value} (hs : NAV g w s vs) (hx : NAV g w x vx)
    (h : aAppend C st o T T2 s x k = some r) (ty : TypeId) :
    ∃ d v g' st' w', o.dst = some d ∧ k st' = some r ∧ (Builtin.append_ #[T, T2] ty #[vs, vx]).run C.P w = .ok v w' ∧ Rel C E g' st' (tm.setIfInBounds d v) w' := by
  unfold aAppend at h
  split at h
  · rename_i d e t d2 hd he hu2
    obtain ⟨hu, ht⟩ := elemTy_inv he
    split at h
    · rename_i b new hb hnew
      obtain ⟨A', cap', news, hvx, hnl, hnr, hnxd⟩ := newElems_ok hx hnew
      have fin : ∀ {g1 : Gh} {st1 : St} {l : List t.T} {m : Option Nat} {S : List Nat}, Rel C E g1 st1 tm w → Stole g g1 S → FRel g1 w (.own t l) vs m → Free g1 w (somes [m]) →
          (l.length + new.length) * b ≤ 70368744177664 → l.length + new.length ≤ 70368744177664 → st1.put false d (.c (.own t (l ++ new))) k = some r →
          ∃ d v g' st' w', o.dst = some d ∧ k st' = some r ∧ (Builtin.append_ #[T, T2] ty #[vs, vx]).run C.P w = .ok v w' ∧ Rel C E g' st' (tm.setIfInBounds d v) w' := by
        intro g1 st1 l m S R1 L hF F h1 h2 hk
        have hnr1 : RowOk g1 w t new news.toArray := fun i x hi => ER.mono (fun n hn => by
          rcases L.lab n with e | ⟨_, _, _, _, e, _⟩
          · exact ⟨by rw [Gh.imm, e]; exact hn, rfl⟩
          · have hn : g.lab n = .imm := hn
            rw [hn] at e; cases e) (hnr i x hi)
        obtain ⟨v', w', m', h3, J, h5, h6⟩ := append_float R1 hu hu2 ht hb hF F hvx hnl hnr1 (hnxd C.P) h1 h2 ty
        obtain ⟨g', st', h7, h8⟩ := (R1.growJ J).put (a := .c (.own t (l ++ new))) (ms := [m']) ⟨_, [], m', [], rfl, rfl, h5, rfl, rfl⟩ h6 hk
        exact ⟨d, v', g', st', w', hd, h7, h3, h8⟩
      split at h
      · rename_i p f lo t' l
        split at h
        · rename_i htt
          subst htt
          cases hc1 : decide ((l.length + new.length) * b ≤ 70368744177664) with
          | false => rw [hc1] at h; cases h
          | true =>
            cases hc2 : decide (l.length + new.length ≤ 70368744177664) with
            | false => rw [hc1, hc2] at h; cases h
            | true =>
              rw [hc1, hc2] at h
              simp only [cond_true] at h
              obtain ⟨g1, ms, R1, F1, Fr, L⟩ := steal_sound [.view p f lo t' l] [] st g [vs] R (NsRel.one hs.one_inv).ls
              have es : steal [] [.view p f lo t' l] st = ([.own t' l], st.giveUp p) := by simp [steal]
              rw [es] at R1 F1
              obtain ⟨v, vs', m, ms', hv, rfl, hF, hn⟩ := F1
              simp only [List.cons.injEq] at hv
              obtain ⟨rfl, rfl⟩ := hv
              obtain ⟨_, rfl⟩ := hn
              exact fin R1 L hF Fr (of_decide_eq_true hc1) (of_decide_eq_true hc2) h
        · cases h
      · cases hc1 : decide (new.length * b ≤ 70368744177664) with
        | false => rw [hc1] at h; cases h
        | true =>
          cases hc2 : decide (new.length ≤ 70368744177664) with
          | false => rw [hc1, hc2] at h; cases h
          | true =>
            rw [hc1, hc2] at h
            simp only [cond_true] at h
            obtain ⟨A, rfl⟩ := hs.one_inv.2 (.slot 0 0 0)
            refine fin (l := []) (m := none) R ⟨rfl, fun n => .inl rfl, fun n hn => (List.not_mem_nil hn).elim⟩ ⟨0, A, 0, rfl, by simp, .inl rfl⟩ Free.nil ?_ ?_ h
            · simpa using of_decide_eq_true hc1
            · simpa using of_decide_eq_true hc2
      · cases h
    · cases h
  · cases h

end
end Go.Vai
