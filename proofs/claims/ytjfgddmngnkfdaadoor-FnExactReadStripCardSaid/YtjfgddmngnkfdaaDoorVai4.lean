/- A lemma text on a verified interpreter without memory (part Vai4). No conditions. -/
import Derived.Test.YtjfgddmngnkfdaaDoorVai3
import Derived.Laws.Cells
/- VAI 4: OPERANDS; OPERATIONS THAT ONLY READ. -/
namespace Go.Vai
open Go

theorem CRel.any {g : Gh} {w : World} {p q : Place} {c : CV} {v : Value} (hc : c.isOwn = false) (h : CRel g w p c v) : CRel g w q c v := by
  cases c <;> first | exact h | cases hc

/-- What floats nowhere: an operand's cells. -/
def NsRel (g : Gh) (w : World) : List CV → List Value → Prop
  | [], vs => vs = []
  | c :: r, vs => ∃ v vs', vs = v :: vs' ∧ FRel g w c v [] ∧ NsRel g w r vs'

def NV (g : Gh) (w : World) (x : Val) (v : Value) : Prop :=
  match x.agg with
  | true => ∃ vs, v = .agg vs ∧ NsRel g w x.cs vs.toList
  | false => NsRel g w x.cs [v]

def NVs (g : Gh) (w : World) : List Val → List Value → Prop
  | [], vs => vs = []
  | x :: r, vs => ∃ v vs', vs = v :: vs' ∧ NV g w x v ∧ NVs g w r vs'

def NAV (g : Gh) (w : World) (a : AV) (v : Value) : Prop :=
  match a with
  | .one x => NV g w x v
  | .tup l => ∃ vs, v = .tuple vs ∧ NVs g w l vs.toList

theorem NsRel.fs {g : Gh} {w : World} : ∀ {cs : List CV} {vs : List Value}, NsRel g w cs vs → ∃ ms, FsRel g w cs vs ms ∧ somes ms = []
  | [], _, h => ⟨[], ⟨h, rfl⟩, rfl⟩
  | c :: r, _, h => by
    obtain ⟨v, vs', rfl, h1, h2⟩ := h
    obtain ⟨ms, h3, h4⟩ := NsRel.fs h2
    exact ⟨[] :: ms, ⟨v, vs', [], ms, rfl, rfl, h1, h3⟩, h4⟩

theorem NV.fs {g : Gh} {w : World} {x : Val} {v : Value} (h : NV g w x v) : ∃ ms, FV g w x v ms ∧ somes ms = [] := by
  obtain ⟨a, cs⟩ := x
  cases a with
  | true =>
    obtain ⟨vs, hv, h⟩ := h
    obtain ⟨ms, h1, h2⟩ := h.fs
    exact ⟨ms, ⟨vs, hv, h1⟩, h2⟩
  | false => exact NsRel.fs (cs := cs) h

theorem NVs.fs {g : Gh} {w : World} : ∀ {l : List Val} {vs : List Value}, NVs g w l vs → ∃ ms, FVs g w l vs ms ∧ somes ms = []
  | [], _, h => ⟨[], ⟨h, rfl⟩, rfl⟩
  | c :: r, _, h => by
    obtain ⟨v, vs', rfl, h1, h2⟩ := h
    obtain ⟨ms, h3, h4⟩ := h1.fs
    obtain ⟨ms', h5, h6⟩ := NVs.fs h2
    exact ⟨ms ++ ms', ⟨v, vs', ms, ms', rfl, rfl, h3, h5⟩, by rw [somes_append, h4, h6]; rfl⟩

theorem NAV.fs {g : Gh} {w : World} {a : AV} {v : Value} (h : NAV g w a v) : ∃ ms, FAV g w a v ms ∧ somes ms = [] := by
  cases a with
  | one x => exact NV.fs h
  | tup l =>
    obtain ⟨vs, hv, h⟩ := h
    obtain ⟨ms, h1, h2⟩ := h.fs
    exact ⟨ms, ⟨vs, hv, h1⟩, h2⟩

theorem NsRel.ls {g : Gh} {w : World} {bad : List Place} : ∀ {cs : List CV} {vs : List Value}, NsRel g w cs vs → LsRel g w bad cs vs
  | [], _, h => h
  | _ :: _, _, h => by
    obtain ⟨v, vs', rfl, h1, h2⟩ := h
    exact ⟨v, vs', rfl, .inr (.inr h1), h2.ls⟩

theorem NsRel.length {g : Gh} {w : World} : ∀ {cs : List CV} {vs : List Value}, NsRel g w cs vs → cs.length = vs.length
  | [], _, h => by subst h; rfl
  | _ :: _, _, h => by obtain ⟨v, vs', rfl, _, h2⟩ := h; simp [h2.length]

theorem NsRel.get {g : Gh} {w : World} : ∀ {cs : List CV} {vs : List Value}, NsRel g w cs vs → ∀ {i : Nat} {c : CV}, cs[i]? = some c → ∃ v, vs[i]? = some v ∧ FRel g w c v []
  | [], _, _, _, _, hi => by simp at hi
  | _ :: _, _, h, i, c, hi => by
    obtain ⟨v, vs', rfl, h1, h2⟩ := h
    cases i with
    | zero => simp at hi; subst hi; exact ⟨v, rfl, h1⟩
    | succ i => exact h2.get (by simpa using hi)

theorem NsRel.drop {g : Gh} {w : World} : ∀ (n : Nat) {cs : List CV} {vs : List Value}, NsRel g w cs vs → NsRel g w (cs.drop n) (vs.drop n)
  | 0, _, _, h => h
  | n + 1, [], _, h => by subst h; simp [NsRel]
  | n + 1, _ :: _, _, h => by obtain ⟨v, vs', rfl, _, h2⟩ := h; exact h2.drop n

theorem NsRel.take {g : Gh} {w : World} : ∀ (n : Nat) {cs : List CV} {vs : List Value}, NsRel g w cs vs → NsRel g w (cs.take n) (vs.take n)
  | 0, _, _, _ => by simp [NsRel]
  | n + 1, [], _, h => by subst h; simp [NsRel]
  | n + 1, _ :: _, _, h => by obtain ⟨v, vs', rfl, h1, h2⟩ := h; exact ⟨v, _, rfl, h1, h2.take n⟩

theorem NsRel.append {g : Gh} {w : World} : ∀ {cs : List CV} {vs : List Value}, NsRel g w cs vs → ∀ {cs' vs'}, NsRel g w cs' vs' → NsRel g w (cs ++ cs') (vs ++ vs')
  | [], _, h, _, _, h' => by subst h; exact h'
  | _ :: _, _, h, _, _, h' => by obtain ⟨v, vs', rfl, h1, h2⟩ := h; exact ⟨v, _, rfl, h1, h2.append h'⟩

theorem NsRel.one {g : Gh} {w : World} {c : CV} {v : Value} (h : FRel g w c v []) : NsRel g w [c] [v] := ⟨v, [], rfl, h, rfl⟩

theorem NsRel.map {g : Gh} {w : World} (f : CV → CV) (hf : ∀ c v, FRel g w c v [] → FRel g w (f c) v []) : ∀ {cs : List CV} {vs : List Value}, NsRel g w cs vs → NsRel g w (cs.map f) vs
  | [], _, h => h
  | _ :: _, _, h => by obtain ⟨v, vs', rfl, h1, h2⟩ := h; exact ⟨v, vs', rfl, hf _ _ h1, NsRel.map f hf h2⟩

/-! ### lending -/

theorem FRel.lend {g : Gh} {w : World} {p : Place} {c : CV} {v : Value} (h : CRel g w p c v) : FRel g w (lend p c) v [] := by
  cases c with
  | own t l => exact ⟨rfl, fun _ => ⟨h, fun e => by cases e⟩⟩
  | np cs => exact ⟨rfl, fun _ => trivial⟩
  | undef => exact ⟨rfl, fun _ => trivial⟩
  | v x => exact ⟨rfl, fun _ => h⟩
  | emp => exact ⟨rfl, fun _ => h⟩
  | sl t l => exact ⟨rfl, fun _ => h⟩
  | view q f lo t l => exact ⟨rfl, fun _ => h⟩
  | ptr b o => exact ⟨rfl, fun _ => h⟩
  | gp b o => exact ⟨rfl, fun _ => h⟩
  | lb n => exact ⟨rfl, fun _ => h⟩
  | ea t x o => exact ⟨rfl, fun _ => h⟩
  | va q i t x o => exact ⟨rfl, fun _ => h⟩
  | fn f caps => exact ⟨rfl, fun _ => h⟩

theorem NsRel.lends {g : Gh} {w : World} {p : Nat → Place} : ∀ {cs : List CV} {i : Nat} {vs : List Value}, CsRel g w p i cs vs → NsRel g w (lends p i cs) vs
  | [], _, _, h => h
  | _ :: _, _, _, h => by obtain ⟨v, vs', rfl, h1, h2⟩ := h; exact ⟨v, vs', rfl, FRel.lend h1, NsRel.lends h2⟩

theorem NV.lend {g : Gh} {w : World} {p : Nat → Place} {x : Val} {v : Value} (h : VRel g w p x v) : NV g w ⟨x.agg, Vai.lends p 0 x.cs⟩ v := by
  obtain ⟨a, cs⟩ := x
  cases a with
  | true => obtain ⟨vs, hv, h⟩ := h; exact ⟨vs, hv, NsRel.lends h⟩
  | false => exact NsRel.lends (cs := cs) h

theorem NVs.lend {g : Gh} {w : World} {i : Nat} : ∀ {l : List Val} {k : Nat} {vs : List Value}, VsRel g w i k l vs → NVs g w (lendVals i k l) vs
  | [], _, _, h => h
  | _ :: _, _, _, h => by obtain ⟨v, vs', rfl, h1, h2⟩ := h; exact ⟨v, vs', rfl, NV.lend h1, NVs.lend h2⟩

theorem NAV.lend {g : Gh} {w : World} {i : Nat} {a : AV} {v : Value} (h : AVRel g w i a v) : NAV g w (lendAV i a) v := by
  cases a with
  | one x => exact NV.lend h
  | tup l => obtain ⟨vs, hv, h⟩ := h; exact ⟨vs, hv, NVs.lend h⟩

theorem NAV.undef {g : Gh} {w : World} {v : Value} : NAV g w .undef v := NsRel.one (c := .undef) ⟨rfl, fun _ => trivial⟩

theorem NsRel.vs {g : Gh} {w : World} : ∀ (l : List Value), NsRel g w (l.map .v) l
  | [] => rfl
  | x :: r => ⟨x, r, rfl, ⟨rfl, fun _ => rfl⟩, NsRel.vs r⟩

theorem NAV.c {g : Gh} {w : World} {c : CV} {v : Value} (h : FRel g w c v []) : NAV g w (.c c) v := NsRel.one h

theorem NAV.v {g : Gh} {w : World} (x : Value) : NAV g w (.c (.v x)) x := NAV.c ⟨rfl, fun _ => rfl⟩

theorem constAV_rel {g : Gh} {w : World} (x : Value) : NAV g w (constAV x) x := by
  cases x <;> first | exact NAV.v _ | exact ⟨_, rfl, NsRel.vs _⟩

theorem Rel.getD {C : Ctx} {E : Entry} {g : Gh} {st : St} {tm : Array Value} {w : World} (R : Rel C E g st tm w) (i : Nat) : AVRel g w i (st.get i) (tm.getD i undef) := by
  simp only [St.get, List.getD_eq_getElem?_getD]
  cases h : st.slots[i]? with
  | none => exact ⟨_, _, rfl, trivial, rfl⟩
  | some a =>
    obtain ⟨v, hv, h'⟩ := R.slots i a h
    simp only [Option.getD_some]
    rw [Array.getD_eq_getD_getElem?, hv]; exact h'

theorem opd_rel {C : Ctx} {E : Entry} {g : Gh} {st : St} {a : Act} {w : World} (R : Rel C E g st a.tmps w) (x : Operand) : NAV g w (st.opd x) (a.eval x) := by
  cases x with
  | tmp i => exact NAV.lend (R.getD i)
  | const x => exact constAV_rel x
  | global h => exact NAV.c ⟨rfl, fun _ => rfl⟩
  | func f => exact NAV.c ⟨rfl, fun _ => ⟨#[], rfl, rfl, fun i c h => by simp at h⟩⟩

theorem fresh_rel {g : Gh} {w : World} : ∀ (t : Ty) (vs : List Value), t.freshOk vs = true → NsRel g w t.fresh vs
  | .int k, [.int k' n], h => by
    simp only [Ty.freshOk, Bool.and_eq_true, decide_eq_true_eq] at h
    obtain ⟨rfl, rfl⟩ := h
    exact NsRel.one ⟨rfl, fun _ => rfl⟩
  | .bool, [.bool b], h => by
    simp only [Ty.freshOk, Bool.not_eq_true'] at h
    subst h
    exact NsRel.one ⟨rfl, fun _ => rfl⟩
  | .str, [.string s], h => by
    simp only [Ty.freshOk, decide_eq_true_eq] at h
    have : s = ⟨#[]⟩ := by
      cases s with
      | mk d => simp only [ByteArray.size] at h; rw [Array.eq_empty_of_size_eq_zero h]
    subst this
    exact NsRel.one ⟨rfl, fun _ => rfl⟩
  | .unit, [], _ => rfl
  | .pair a b, vs, h => by
    simp only [Ty.freshOk, Bool.and_eq_true] at h
    have := (fresh_rel a _ h.1).append (fresh_rel (g := g) (w := w) b _ h.2)
    rwa [List.take_append_drop] at this
  | .slice t, [.slice none n c], h => by
    simp only [Ty.freshOk, Bool.and_eq_true, decide_eq_true_eq] at h
    obtain ⟨rfl, rfl⟩ := h
    exact NsRel.one ⟨0, none, 0, rfl, by simp, .inl rfl⟩

theorem opdT_rel {C : Ctx} {E : Entry} {g : Gh} {st : St} {a : Act} {w : World} (R : Rel C E g st a.tmps w) (T : TypeId) (x : Operand) :
    NAV g w (st.opdT C.P T x) (a.eval x) := by
  cases x with
  | tmp i => exact opd_rel R (.tmp i)
  | global h => exact opd_rel R (.global h)
  | func f => exact opd_rel R (.func f)
  | const x =>
    simp only [St.opdT]
    cases ty? C.P T with
    | none => exact constAV_rel x
    | some y =>
      simp only
      by_cases hf : y.freshOk x.cells.toList = true
      · rw [if_pos hf]
        have h := fresh_rel (g := g) (w := w) y _ hf
        cases x <;> first | exact h | exact ⟨_, rfl, h⟩
      · rw [if_neg hf]; exact constAV_rel x


/-! ### the machine's tables -/

theorem eqOpd_rel {C : Ctx} {E : Entry} {g : Gh} {st : St} {a : Act} {w : World} (R : Rel C E g st a.tmps w) (T : TypeId) (x : Operand) :
    NAV g w (st.eqOpd C.P T x) (a.eval x) := by
  unfold St.eqOpd
  split
  · exact NAV.c ⟨rfl, fun _ => rfl⟩
  · exact opdT_rel R T x


theorem run_underlying' {P : Program} {t : TypeId} {d : TypeDesc} (h : P.underlying t = some d) (w : World) : (underlying t).run P w = .ok d w := by
  simp [underlying, h]

theorem run_sizeAt {P : Program} {t : TypeId} {n : Nat} (h : sizeAt P t = some n) (w : World) : (sizeOf t).run P w = .ok n w := by
  simp only [sizeAt, Option.map_eq_some_iff] at h
  obtain ⟨i, hi, rfl⟩ := h
  simp [sizeOf, typeInfo, hi]

theorem run_aggOf {P : Program} {t : TypeId} {b : Bool} (h : aggOf P t = some b) (w : World) : (isAgg t).run P w = .ok b w := by
  simp only [aggOf, Option.map_eq_some_iff] at h
  obtain ⟨d, hd, rfl⟩ := h
  simp only [isAgg, Sem.run_bind, run_underlying' hd, Result.andThen_ok]
  cases d <;> rfl

theorem cell_of {w : World} {b off : Nat} {vs : Array Value} {e : TypeId} {fz : Nat × Nat} (h : w.heap[b]? = some (.cells vs e fz)) :
    w.cell? ⟨b, off, none⟩ = vs[off]? := by
  simp [World.cell?, h]

/-- A load that is no aggregate's. -/
theorem run_loadVar_one {P : Program} {w : World} {T : TypeId} {b off : Nat} {vs : Array Value} {e : TypeId} {fz : Nat × Nat} {v : Value}
    (ha : aggOf P T = some false) (h : w.heap[b]? = some (.cells vs e fz)) (hv : vs.toList[off]? = some v) :
    (Instr.loadAt T (.pointer (some ⟨b, off, none⟩))).run P w = .ok v w := by
  have hc : w.cell? ⟨b, off, none⟩ = some v := by rw [cell_of h]; simpa using hv
  simp [Instr.loadAt, Instr.sureAddr, loadVar, run_aggOf ha, hc]

theorem run_loadVar_agg {P : Program} {w : World} {T : TypeId} {b off n : Nat} {vs : Array Value} {e : TypeId} {fz : Nat × Nat}
    (ha : aggOf P T = some true) (hn : sizeAt P T = some n) (h : w.heap[b]? = some (.cells vs e fz)) (hl : (seg vs off n).length = n) :
    (Instr.loadAt T (.pointer (some ⟨b, off, none⟩))).run P w = .ok (.agg (seg vs off n).toArray) w := by
  have := run_loadCells_list (P := P) w ⟨b, off, none⟩ (seg vs off n) (fun j v hj => by
    have hj' : j < n := by
      have := (List.getElem?_eq_some_iff.1 hj).1
      omega
    have e : (⟨b, off, none⟩ : Addr).add j = ⟨b, off + j, none⟩ := by simp [Addr.add]
    rw [e, cell_of h]
    simp only [seg, List.getElem?_take, hj', if_true, List.getElem?_drop] at hj
    simpa using hj)
  rw [hl] at this
  simp [Instr.loadAt, Instr.sureAddr, loadVar, run_aggOf ha, run_sizeAt hn, this]

theorem ER.cells {g : Gh} {w : World} : ∀ {t : Ty} {x : t.T} {vs : List Value}, ER g.imm w t x vs → NsRel g w (t.cells x) vs
  | .int _, _, _, h => by simp only [ER] at h; subst h; exact NsRel.one ⟨rfl, fun _ => rfl⟩
  | .bool, _, _, h => by simp only [ER] at h; subst h; exact NsRel.one ⟨rfl, fun _ => rfl⟩
  | .str, _, _, h => by simp only [ER] at h; subst h; exact NsRel.one ⟨rfl, fun _ => rfl⟩
  | .unit, _, _, h => h
  | .pair a b, x, vs, h => by
    have := (ER.cells h.1).append (ER.cells h.2)
    rwa [List.take_append_drop] at this
  | .slice t, l, vs, h => by
    obtain ⟨A, cap, rfl, h⟩ := h
    exact NsRel.one ⟨rfl, fun _ => ⟨A, cap, rfl, h⟩⟩

theorem lends_length (p : Nat → Place) : ∀ (cs : List CV) (i : Nat), (lends p i cs).length = cs.length
  | [], _ => rfl
  | _ :: r, i => by simp [lends, lends_length p r]

/-- What a pointer leads to. -/
theorem cellsAt_rel {C : Ctx} {E : Entry} {g : Gh} {st : St} {tm : Array Value} {w : World} (R : Rel C E g st tm w) {c : CV} {y : Value} {o : Nat} {cs : List CV}
    (hc : FRel g w c y []) (h : cellsAt C st c = some (o, cs)) :
    ∃ b off vs e fz, y = .pointer (some ⟨b, off + o, none⟩) ∧ w.heap[b]? = some (.cells vs e fz) ∧ NsRel g w cs (seg vs off cs.length) := by
  have full : ∀ (vs : Array Value), cs.length = vs.toList.length → NsRel g w cs vs.toList → NsRel g w cs (seg vs 0 cs.length) := by
    intro vs hl hn
    simp only [seg, List.drop_zero, hl, List.take_length]; exact hn
  cases c with
  | ptr b o' =>
    simp only [cellsAt] at h
    obtain ⟨n, hy, hb⟩ := hc.2 (.slot 0 0 0)
    cases hbx : st.boxes.getD b none with
    | none => rw [hbx] at h; cases h
    | some x =>
      obtain ⟨ro, cs'⟩ := x
      rw [hbx] at h
      simp only [Option.some.injEq, Prod.mk.injEq] at h
      obtain ⟨rfl, rfl⟩ := h
      have hb' : st.boxes[b]? = some (some (ro, cs')) := by
        rw [List.getD_eq_getElem?_getD] at hbx
        cases hq : st.boxes[b]? with
        | none => rw [hq] at hbx; cases hbx
        | some z => rw [hq] at hbx; simp at hbx; rw [hbx]
      obtain ⟨n', vs, e, fz, h1, h2, h3, h4, h5⟩ := R.boxes b ro cs' hb'
      rw [hb] at h1
      simp only [Option.some.injEq] at h1
      subst h1
      have hn := NsRel.lends h5
      exact ⟨n, 0, vs, e, fz, by simpa using hy, h3, full vs (by simpa using hn.length) hn⟩
  | lb n => cases h
  | gp b o' =>
    simp only [cellsAt] at h
    have hy := hc.2 (.slot 0 0 0)
    cases hg : C.glob b with
    | none => rw [hg] at h; cases h
    | some cs' =>
      rw [hg] at h
      simp only [Option.some.injEq, Prod.mk.injEq] at h
      obtain ⟨rfl, rfl⟩ := h
      obtain ⟨vs, e, fz, h1, h2, h3⟩ := R.glob b _ hg
      have hy : y = .pointer (some ⟨b, _, none⟩) := hy
      refine ⟨b, 0, vs, e, fz, by simpa using hy, h1, full vs (by rw [h3]; simp) (h3 ▸ NsRel.vs _)⟩
  | ea t x o' =>
    simp only [cellsAt, Option.some.injEq, Prod.mk.injEq] at h
    obtain ⟨rfl, rfl⟩ := h
    obtain ⟨b, off, vs, e, fz, hy, hl, hh, hx⟩ := hc.2 (.slot 0 0 0)
    have hn := hx.cells
    refine ⟨b, off, vs, e, fz, hy, hh, ?_⟩
    rw [hn.length, hx.length]; exact hn
  | va q i t x o' =>
    simp only [cellsAt, Option.some.injEq, Prod.mk.injEq] at h
    obtain ⟨rfl, rfl⟩ := h
    obtain ⟨b, off, n, c, vs, e, hy, hl, hh, hx⟩ := hc.2 (.slot 0 0 0)
    have hn := hx.cells
    refine ⟨b, off + i * t.size, vs, e, _, hy, hh, ?_⟩
    rw [hn.length, hx.length]; exact hn
  | np cs => cases h
  | undef => cases h
  | v x => cases h
  | emp => cases h
  | sl t l => cases h
  | own t l => cases h
  | view q f lo t l => cases h
  | fn f caps => cases h

/-- An operation that changes nothing: its result, and where the interpreter goes on. -/
def QOk (C : Ctx) (g : Gh) (w : World) {Q : Type} (s : Sem Value) (k : AV → Option Q) (r : Q) : Prop :=
  ∃ av v, k av = some r ∧ s.run C.P w = .ok v w ∧ NAV g w av v

/-- A value of one cell. -/
theorem NAV.one_inv {g : Gh} {w : World} {c : CV} {y : Value} (h : NAV g w (.one ⟨false, [c]⟩) y) : FRel g w c y [] := by
  obtain ⟨v, vs', hv, h1, h2⟩ := h
  injection hv with hv _
  subst hv; exact h1

theorem aLoad_ok {C : Ctx} {E : Entry} {g : Gh} {st : St} {tm : Array Value} {w : World} (R : Rel C E g st tm w) {T : TypeId} {a : AV} {y : Value}
    {Q : Type} {k : AV → Option Q} {r : Q} (ha : NAV g w a y) (h : aLoad C st T a k = some r) : QOk C g w (Instr.loadAt T y) k r := by
  unfold aLoad at h
  split at h
  · rename_i c
    have hc := ha.one_inv
    split at h
    · rename_i o cs hcell
      obtain ⟨b, off, vs, e, fz, rfl, hh, hn⟩ := cellsAt_rel R hc hcell
      split at h
      · rename_i hagg
        split at h
        · rename_i n hsz
          split at h
          · rename_i hlen
            have hn' := (hn.drop o).take n
            have hseg : ((seg vs off cs.length).drop o).take n = seg vs (off + o) n := by
              have hl := hn'.length
              rw [hlen] at hl
              simp only [seg] at hl ⊢
              rw [List.drop_take, List.take_take, List.drop_drop]
              congr 1
              simp only [List.length_take, List.length_drop] at hl hlen ⊢
              omega
            rw [hseg] at hn'
            have hl' : (seg vs (off + o) n).length = n := by rw [← hn'.length]; exact hlen
            exact ⟨_, _, h, run_loadVar_agg hagg hsz hh hl', _, rfl, hn'⟩
          · cases h
        · cases h
      · rename_i hagg
        split at h
        · rename_i c' hc'
          obtain ⟨v, hv, hf⟩ := hn.get hc'
          have hv' : vs.toList[off + o]? = some v := by
            simp only [seg, List.getElem?_take, List.getElem?_drop] at hv
            split at hv
            · exact hv
            · cases hv
          exact ⟨_, _, h, run_loadVar_one hagg hh hv', NAV.c hf⟩
        · cases h
      · cases h
    · cases h
  · cases h

end Go.Vai
