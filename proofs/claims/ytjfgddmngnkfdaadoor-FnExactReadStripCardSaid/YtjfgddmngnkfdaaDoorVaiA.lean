/- A lemma text on a verified interpreter without memory (part VaiA). No conditions. -/
import Derived.Test.YtjfgddmngnkfdaaDoorVaiD
/- VAI A: an append and the pointers that are looked at ahead of it. -/
namespace Go.Vai
open Go

section
variable {C : Ctx} {st st' : St} {Q : Type}

/-- The same pointer, some cells further. -/
def CV.off (n : Nat) : CV → Option CV
  | .ptr b o => some (.ptr b (o + n))
  | .gp b o => some (.gp b (o + n))
  | .ea t x o => some (.ea t x (o + n))
  | .va p i t x o => some (.va p i t x (o + n))
  | _ => none

def ptVal (n : Nat) : AV → Option CV
  | .one ⟨false, [c]⟩ => c.off n
  | _ => none

theorem off_lend (n : Nat) (p : Place) (c : CV) : (lend p c).off n = c.off n := by
  cases c <;> rfl

theorem ptVal_lend (n i : Nat) (a : AV) : ptVal n (lendAV i a) = ptVal n a := by
  cases a with
  | tup l => rfl
  | one x =>
    obtain ⟨g, cs⟩ := x
    cases g with
    | true => cases cs <;> rfl
    | false =>
      cases cs with
      | nil => rfl
      | cons c r =>
        cases r with
        | nil => exact off_lend n _ c
        | cons _ _ => rfl

theorem aNil_pt (a : AV) : aNil a some = (ptVal 0 a).map AV.c := by
  unfold aNil ptVal
  split
  all_goals first
    | rfl
    | skip
  rename_i h1 h2 h3 h4
  split
  · rename_i c
    cases c <;> first | rfl | (exfalso; first | exact h1 _ _ rfl | exact h2 _ _ rfl | exact h3 _ _ _ rfl | exact h4 _ _ _ _ _ rfl)
  · rfl

theorem aFieldAddr_pt (P : Program) (T : TypeId) (f : Nat) : ∃ n : Option Nat, ∀ a, aFieldAddr P T a f some = (n.bind fun n => ptVal n a).map AV.c := by
  unfold aFieldAddr
  split
  · rename_i off n b _
    by_cases hn : n = 0
    · exact ⟨none, fun a => by simp [hn]⟩
    · refine ⟨some off, fun a => ?_⟩
      simp only [hn, if_false, Option.bind_some, ptVal]
      split
      all_goals first
        | rfl
        | skip
      rename_i h1 h2 h3 h4
      split
      · rename_i c
        cases c <;> first | rfl | (exfalso; first | exact h1 _ _ rfl | exact h2 _ _ rfl | exact h3 _ _ _ rfl | exact h4 _ _ _ _ _ rfl)
      · rfl
  · exact ⟨none, fun a => rfl⟩

/-- What a look at a pointer does. -/
theorem pt_run {ops : Array Oper} {o : Oper} (h : ptOp o = true) : ∃ t d, ∃ n : Option Nat, o.dst = some d ∧ t ∈ tmpsOf ops o ∧
    ∀ st, run1 C ops o st = ((n.bind fun n => ptVal n (st.get t)).bind fun v => if (st.get d).hasOwn then none else some (st.set d (.c v))) := by
  cases o with
  | mk dst op type pos after guard =>
  simp only [ptOp, Bool.and_eq_true] at h
  obtain ⟨⟨h1, h2⟩, h3⟩ := h
  cases guard with
  | some _ => cases h1
  | none =>
    cases dst with
    | none => cases h2
    | some d =>
      have fin : ∀ (st : St) (x : Option CV), ((x.map AV.c).map (pureEff ⟨some d, op, type, pos, after, none⟩)).bind (·.apply st) = x.bind fun v => if (st.get d).hasOwn then none else some (st.set d (.c v)) := by
        intro st x
        cases x with
        | none => rfl
        | some v =>
          simp only [Option.map_some, Option.bind_some, pureEff, Eff.apply, St.put]
          cases (st.get d).hasOwn <;> rfl
      cases op with
      | nilCheck x =>
        cases x with
        | tmp t =>
          refine ⟨t, d, some 0, rfl, by simp [tmpsOf, Op.operands], fun st => ?_⟩
          have : run1 C ops ⟨some d, .nilCheck (.tmp t), type, pos, after, none⟩ st = ((aNil (st.opd (.tmp t)) some).map (pureEff ⟨some d, .nilCheck (.tmp t), type, pos, after, none⟩)).bind (·.apply st) := rfl
          rw [this, aNil_pt, fin]
          simp only [St.opd, ptVal_lend, Option.bind_some]
        | _ => cases h3
      | fieldAddr T x f =>
        cases x with
        | tmp t =>
          obtain ⟨n, hn⟩ := aFieldAddr_pt C.P T f
          refine ⟨t, d, n, rfl, by simp [tmpsOf, Op.operands], fun st => ?_⟩
          have : run1 C ops ⟨some d, .fieldAddr T (.tmp t) f, type, pos, after, none⟩ st = ((aFieldAddr C.P T (st.opd (.tmp t)) f some).map (pureEff ⟨some d, .fieldAddr T (.tmp t) f, type, pos, after, none⟩)).bind (·.apply st) := rfl
          rw [this, hn, fin]
          simp only [St.opd, ptVal_lend]
        | _ => cases h3
      | _ => cases h3

/-- A change of all cells that leaves pointers alone, or takes them away. -/
structure Tame (d : Nat) (f : Place → CV → CV) : Prop where
  undef : ∀ q, f q .undef = .undef
  pt : ∀ q c n v, (f q c).off n = some v → c.off n = some v ∧ f (.slot d 0 0) v = v
  own : ∀ q c, (f q c).isOwn = true → c.isOwn = true
  sim : ∀ c, c.isPt = true → f (.slot d 0 0) c = c

theorem tame_up {bad : Place → Bool} {d : Nat} (hd : bad (.slot d 0 0) = false) : Tame d (fun q c => match bad q with | true => .undef | false => c.unlend bad) := by
  refine ⟨fun q => by cases bad q <;> rfl, fun q c n v h => ?_, fun q c h => ?_, fun c h => ?_⟩
  cases hq : bad q with
  | true => rw [hq] at h; cases h
  | false =>
    rw [hq] at h
    simp only [hd]
    cases c with
    | va p i t x o =>
      simp only [CV.unlend] at h
      split at h
      · cases h
      · rename_i hb
        simp only [CV.off, Option.some.injEq] at h ⊢
        subst h
        exact ⟨rfl, by simp [CV.unlend, hb]⟩
    | view p f lo t l =>
      simp only [CV.unlend] at h
      split at h <;> cases h
    | _ => first
      | (cases h; exact ⟨rfl, rfl⟩)
      | cases h
  · cases hq : bad q with
    | true => rw [hq] at h; cases h
    | false =>
      rw [hq] at h
      cases c with
      | va p i t x o => simp only [CV.unlend] at h; split at h <;> cases h
      | view p f lo t l => simp only [CV.unlend] at h; split at h <;> cases h
      | own t l => rfl
      | _ => exact h
  · simp only [hd]
    cases c <;> first | rfl | cases h

theorem tame_bulk {p : Place} {lo : Nat} {t : Ty} {ys : List t.T} {d : Nat} : Tame d (fun q c => if q = p then c.bulkOwn p lo t ys else c.bulk p lo t ys) := by
  refine ⟨fun q => by split <;> rfl, fun q c n v h => ?_, fun q c h => ?_, fun c h => ?_⟩
  rotate_left
  · cases c with
    | own t l => rfl
    | view q' f k t' l => simp only [CV.bulkOwn, CV.bulk, ite_self] at h; split at h
                          · split at h <;> cases h
                          · cases h
    | va q' i t' x o => simp only [CV.bulkOwn, CV.bulk, ite_self] at h; split at h <;> cases h
    | _ => simp only [CV.bulkOwn, CV.bulk, ite_self] at h; exact h
  · cases c <;> first | (cases h; done) | simp only [CV.bulkOwn, CV.bulk, ite_self]
  have h' : (c.bulk p lo t ys).off n = some v := by
    split at h
    · cases c with
      | own t' l =>
        simp only [CV.bulkOwn] at h
        split at h <;> cases h
      | _ => exact h
    · exact h
  cases c with
  | va q' i t' x o =>
    simp only [CV.bulk] at h'
    split at h'
    · cases h'
    · rename_i hb
      simp only [CV.off, Option.some.injEq] at h' ⊢
      subst h'
      refine ⟨rfl, ?_⟩
      simp only [CV.bulkOwn, CV.bulk, hb, if_false, ite_self]
  | view q' f k t' l =>
    simp only [CV.bulk] at h'
    split at h'
    · split at h' <;> cases h'
    · cases h'
  | _ => first
    | (cases h'; exact ⟨rfl, by simp [CV.bulkOwn, CV.bulk]⟩)
    | cases h'

theorem ptVal_mapP {f : Place → CV → CV} {d : Nat} (hf : Tame d f) {n i : Nat} {a : AV} {v : CV} (h : ptVal n (a.mapP i f) = some v) : ptVal n a = some v ∧ f (.slot d 0 0) v = v := by
  cases a with
  | tup l => cases h
  | one x =>
    obtain ⟨g, cs⟩ := x
    cases g with
    | true => cases cs <;> cases h
    | false =>
      cases cs with
      | nil => cases h
      | cons c r =>
        cases r with
        | nil => exact hf.pt _ c n v h
        | cons _ _ => cases h

theorem mapSlots_set (f : Place → CV → CV) (a : AV) : ∀ (l : List AV) (i d : Nat), (mapSlots f i l).set d (a.mapP (i + d) f) = mapSlots f i (l.set d a)
  | [], _, _ => rfl
  | x :: r, i, 0 => rfl
  | x :: r, i, d + 1 => by
    simp only [mapSlots, List.set_cons_succ]
    rw [← mapSlots_set f a r (i + 1) d, show i + 1 + d = i + (d + 1) by omega]

theorem mapP_setc {f : Place → CV → CV} {d : Nat} {v : CV} (hv : f (.slot d 0 0) v = v) (st : St) : (st.mapP f).set d (.c v) = (st.set d (.c v)).mapP f := by
  simp only [St.set, St.mapP]
  have := mapSlots_set f (.c v) st.slots 0 d
  rw [← this, Nat.zero_add]
  simp only [AV.mapP, Val.mapP, mapCs, hv]

inductive Chg where
  | same
  | up (p : Place)
  | bulk (p : Place) (lo : Nat) (t : Ty) (ys : List t.T)

def Chg.run (st : St) : Chg → St
  | .same => st
  | .up p => st.giveUp p
  | .bulk p lo t ys => st.bulk p lo t ys

def Chg.off (d : Nat) : Chg → Bool
  | .up p => !p.inSlot d
  | _ => true

/-- What an append does. -/
def appSel (C : Ctx) (L? : Place → (t : Ty) → Option (List t.T)) (T T2 : TypeId) (s x : AV) : Option (Chg × AV) :=
  match elemTy C.P T, C.P.underlying T2 with
  | some (e, t), some (.slice _) => match bytesAt C.P e, newElems t x with
    | some b, some new => match s with
      | .one ⟨false, [.view p f lo t' l]⟩ => if h : t' = t then
          (let old := cond (decide ((l.length + new.length) * b ≤ 70368744177664)) (cond (decide (l.length + new.length ≤ 70368744177664)) (some (Chg.up p, .c (.own t ((h ▸ l) ++ new)))) none) none
           match f, L? p t with
           | false, some L => cond (decide (lo + l.length + new.length ≤ L.length)) (some (Chg.bulk p (lo + l.length) t new, .c (.view p false lo t ((h ▸ l) ++ new)))) old
           | _, _ => old) else none
      | .one ⟨false, [.emp]⟩ =>
          cond (decide (new.length * b ≤ 70368744177664)) (cond (decide (new.length ≤ 70368744177664)) (some (Chg.same, .c (.own t new))) none) none
      | _ => none
    | _, _ => none
  | _, _ => none

theorem aAppend_sel (st : St) (o : Oper) (T T2 : TypeId) (s x : AV) (k : St → Option Q) :
    aAppend C st o T T2 s x k = (match o.dst with | some d => (appSel C (ownAt st) T T2 s x).bind fun y => (y.1.run st).put false d y.2 k | none => none) := by
  unfold aAppend appSel
  cases o.dst with
  | none => rfl
  | some d =>
    cases elemTy C.P T with
    | none => rfl
    | some et =>
      obtain ⟨e, t⟩ := et
      cases C.P.underlying T2 with
      | none => rfl
      | some u =>
        cases u with
        | slice _ =>
          simp only
          cases bytesAt C.P e with
          | none => rfl
          | some b =>
            cases newElems t x with
            | none => rfl
            | some new =>
              simp only
              split
              · rename_i p f lo t' l
                by_cases ht : t' = t
                · subst ht
                  simp only [dite_true]
                  cases decide ((l.length + new.length) * b ≤ 70368744177664) <;> cases decide (l.length + new.length ≤ 70368744177664) <;> cases f <;> cases ownAt st p t' <;> first
                    | rfl
                    | (rename_i L; simp only []; cases decide (lo + l.length + new.length ≤ L.length) <;> rfl)
                · simp only [ht, dite_false]; rfl
              · cases decide (new.length * b ≤ 70368744177664) <;> cases decide (new.length ≤ 70368744177664) <;> rfl
              · rename_i h1 h2
                split
                · exact (h1 _ _ _ _ _ rfl).elim
                · exact (h2 rfl).elim
                · rfl
        | _ => rfl

theorem appSel_off {d : Nat} {L? : Place → (t : Ty) → Option (List t.T)} {T T2 : TypeId} {s x : AV} {y : Chg × AV} (hs : s.all (CV.avoids d) = true) (h : appSel C L? T T2 s x = some y) : y.1.off d = true := by
  unfold appSel at h
  repeat' (split at h)
  all_goals first
    | (cases h; done)
    | (rcases cond_some h with ⟨_, h⟩ | ⟨_, h⟩
       · first
         | (cases h; rfl)
         | (rcases cond_some h with ⟨_, h⟩ | ⟨_, h⟩
            · cases h
              simp only [AV.all, List.all_cons, List.all_nil, Bool.and_true, CV.avoids] at hs
              first | rfl | exact hs
            · cases h)
       · first
         | (cases h; done)
         | (rcases cond_some h with ⟨_, h⟩ | ⟨_, h⟩
            · rcases cond_some h with ⟨_, h⟩ | ⟨_, h⟩
              · cases h
                simp only [AV.all, List.all_cons, List.all_nil, Bool.and_true, CV.avoids] at hs
                exact hs
              · cases h
            · cases h))

theorem Chg.tame {d : Nat} {c : Chg} (h : c.off d = true) : c = .same ∨ ∃ f, Tame d f ∧ ∀ st, c.run st = st.mapP f := by
  cases c with
  | same => exact .inl rfl
  | up p =>
    refine .inr ⟨_, tame_up (bad := fun q => decide (q = p)) (d := d) ?_, fun st => rfl⟩
    simp only [Chg.off, Bool.not_eq_true'] at h
    simp only [decide_eq_false_iff_not]
    intro e
    subst e
    simp [Place.inSlot] at h
  | bulk p lo t ys => exact .inr ⟨_, tame_bulk, fun st => rfl⟩

/-- What holds of a look at a pointer behind a tame change holds ahead of it. -/
theorem look_mapP {f : Place → CV → CV} {d t : Nat} {n : Option Nat} (hf : Tame d f) (st : St) {v : CV} (h : (n.bind fun n => ptVal n ((st.mapP f).get t)) = some v) :
    (n.bind fun n => ptVal n (st.get t)) = some v ∧ (st.mapP f).set d (.c v) = (st.set d (.c v)).mapP f := by
  cases n with
  | none => cases h
  | some n =>
    simp only [Option.bind_some] at h ⊢
    rw [St.get_mapP f hf.undef] at h
    obtain ⟨h1, h2⟩ := ptVal_mapP hf h
    exact ⟨h1, mapP_setc h2 st⟩

theorem setSt_get_ne {st : St} {d d' : Nat} {a : AV} (h : d' ≠ d) : (st.set d a).get d' = st.get d' := by
  simp only [St.get, St.set, List.getD_eq_getElem?_getD]
  rw [List.getElem?_set_ne (fun e => h e.symm)]

theorem setSt_comm {st : St} {d d' : Nat} {a b : AV} (h : d ≠ d') : (st.set d a).set d' b = (st.set d' b).set d a := by
  simp only [St.set, List.set_comm _ _ h]

theorem ownAt_set {st : St} {d : Nat} {v : CV} {p : Place} {t : Ty} (hp : p.inSlot d = false) : ownAt (st.set d (.c v)) p t = ownAt st p t := by
  unfold ownAt
  have : (st.set d (.c v)).atPlace p = st.atPlace p := by
    cases p with
    | slot i k j =>
      have hid : i ≠ d := by simpa [Place.inSlot] using hp
      simp only [St.atPlace, setSt_get_ne hid]
    | cell b j => rfl
    | arg j => rfl
  rw [this]

theorem appSel_congr {L1 L2 : Place → (t : Ty) → Option (List t.T)} {T T2 : TypeId} {s x : AV} {d : Nat} (hs : s.all (CV.avoids d) = true) (hL : ∀ p t, p.inSlot d = false → L1 p t = L2 p t) :
    appSel C L1 T T2 s x = appSel C L2 T T2 s x := by
  unfold appSel
  split
  · split
    · split
      · rename_i p f lo t' l
        have hp : p.inSlot d = false := by
          simpa only [AV.all, List.all_cons, List.all_nil, Bool.and_true, CV.avoids, Bool.not_eq_true'] using hs
        split
        · rw [hL p _ hp]
        · rfl
      · rfl
      · rfl
    · rfl
  · rfl

theorem chg_get {f : Place → CV → CV} {st : St} {i d : Nat} {v : CV} (h : i ≠ d) : ((st.set d (.c v)).mapP f).get i = (st.mapP f).get i := by
  simp only [St.get, St.mapP, List.getD_eq_getElem?_getD, mapSlots_get, St.set]
  rw [List.getElem?_set_ne (fun e => h e.symm)]

theorem Chg.get {c : Chg} {st : St} {i d : Nat} {v : CV} (h : i ≠ d) : (c.run (st.set d (.c v))).get i = (c.run st).get i := by
  cases c with
  | same => exact setSt_get_ne h
  | up p => exact chg_get h
  | bulk p lo t ys => exact chg_get h


theorem off_own {n : Nat} {c v : CV} (h : c.off n = some v) : (AV.c v).hasOwn = false := by
  cases c <;> cases h <;> rfl

theorem ptVal_own {n : Nat} {a : AV} {v : CV} (h : ptVal n a = some v) : (AV.c v).hasOwn = false := by
  unfold ptVal at h
  split at h
  · exact off_own h
  · cases h

theorem setSt_get_self {st : St} {d : Nat} {v : CV} (hv : (AV.c v).hasOwn = false) : ((st.set d (.c v)).get d).hasOwn = false := by
  simp only [St.get, St.set, List.getD_eq_getElem?_getD, List.getElem?_set, if_true]
  split
  · exact hv
  · rfl

theorem lateOk_keep {ops : Array Oper} {p o : Oper} {ah : List Nat} {ip : Nat} (ho : ptOp o = true) (hm : o ∈ ops.toList) (hap : apart ops p o = true) (hok : lateOk ops ah ip p st = true) (h : run1 C ops o st = some st') : lateOk ops ah ip p st' = true := by
  obtain ⟨t, d, n, hd, ht, hrun⟩ := pt_run (C := C) (ops := ops) ho
  rw [hrun] at h
  simp only [Option.bind_eq_some_iff] at h
  obtain ⟨v, hv, h⟩ := h
  have hvo : (AV.c v).hasOwn = false := by
    obtain ⟨n', _, h'⟩ := hv
    exact ptVal_own h'
  split at h
  · cases h
  · cases h
    simp only [apart, Bool.and_eq_true] at hap
    have ha2 := hap.2
    rw [hd] at ha2
    simp only [Bool.not_eq_true', List.contains_eq_mem, decide_eq_false_iff_not, tmpsOf, List.mem_append, not_or] at ha2
    have hopd : ∀ x, x ∈ p.op.operands.toList → (st.set d (.c v)).opd x = st.opd x := by
      intro x hx
      cases x with
      | tmp i =>
        have hid : i ≠ d := by
          intro e
          subst e
          exact ha2.1 (List.mem_filterMap.2 ⟨_, hx, rfl⟩)
        simp only [St.opd, setSt_get_ne hid]
      | _ => rfl
    simp only [lateOk, Bool.and_eq_true] at hok ⊢
    refine ⟨List.all_eq_true.2 fun q hq => ?_, List.all_eq_true.2 fun j hj => ?_⟩
    · have hlate := List.all_eq_true.1 hok.1 q hq
      cases hpq : ptOp q with
      | false => rfl
      | true =>
        rw [hpq] at hlate
        cases hqd : q.dst with
        | none => rw [hqd] at hlate; cases hlate
        | some dq =>
          rw [hqd] at hlate
          simp only [Bool.not_true, Bool.false_or, Bool.and_eq_true, Bool.not_eq_true'] at hlate ⊢
          refine ⟨?_, List.all_eq_true.2 fun x hx => ?_⟩
          · by_cases e : dq = d
            · subst e; exact setSt_get_self hvo
            · rw [setSt_get_ne e]; exact hlate.1
          · rw [hopd x hx]; exact List.all_eq_true.1 hlate.2 x hx
    · have hlate := List.all_eq_true.1 hok.2 j hj
      cases hc : ah.contains j with
      | true => rfl
      | false =>
        rw [hc] at hlate
        simp only [Bool.false_or] at hlate ⊢
        split at hlate
        · rename_i tq dq hmv
          simp only [Bool.and_eq_true] at hlate ⊢
          obtain ⟨⟨h1, h2⟩, h3⟩ := hlate
          have hne : dq ≠ d := by
            intro e
            have := List.all_eq_true.1 h1 o hm
            rw [ho, hd, e] at this
            simp at this
          refine ⟨⟨h1, by rw [setSt_get_ne hne]; exact h2⟩, List.all_eq_true.2 fun x hx => ?_⟩
          rw [hopd x hx]
          exact List.all_eq_true.1 h3 x hx
        · cases hlate

/-- The append comes to some state, in which a pointer is looked at: it may be looked at first. -/
theorem app_pull {ops : Array Oper} {p o : Oper} (hp : isApp p = true) (hg : p.guard = none) (ho : ptOp o = true) (hap : apart ops p o = true) {ah : List Nat} {ip : Nat} (hok : lateOk ops ah ip p st = true) (hm : o ∈ ops.toList)
    {K K' : St → Option Q} {r : Q} (h : runOp C false ops p st K = some r) (hK : ∀ st1, K st1 = some r → ∃ st2, run1 C ops o st1 = some st2 ∧ K' st2 = some r) :
    ∃ st', run1 C ops o st = some st' ∧ runOp C false ops p st' K' = some r := by
  obtain ⟨t, d, n, hd, ht, hrun⟩ := pt_run (C := C) (ops := ops) ho
  cases p with
  | mk dst op type pos after guard =>
  cases op with
  | call c =>
    obtain ⟨callee, args, ats⟩ := c
    cases callee with
    | builtin b =>
      cases b with
      | append =>
        simp only at hg
        subst hg
        have hst : ∀ (st : St) (K : St → Option Q), runOp C false ops ⟨dst, .call ⟨.builtin .append, args, ats⟩, type, pos, after, none⟩ st K = (match args.toList, ats.toList with
          | [s, x], [T, T2] => aAppend C st ⟨dst, .call ⟨.builtin .append, args, ats⟩, type, pos, after, none⟩ T T2 (st.opdT C.P T s) (st.opdT C.P T2 x) K
          | _, _ => none) := fun st K => rfl
        rw [hst] at h
        simp only [lateOk, Bool.and_eq_true] at hok
        have hlate := List.all_eq_true.1 hok.1 o hm
        rw [ho, hd] at hlate
        simp only [Bool.not_true, Bool.false_or, Bool.and_eq_true, Bool.not_eq_true'] at hlate
        obtain ⟨hown, hav⟩ := hlate
        simp only [apart, Bool.and_eq_true] at hap
        obtain ⟨ha1, ha2⟩ := hap
        rw [hd] at ha2
        simp only [Bool.not_eq_true', List.contains_eq_mem, decide_eq_false_iff_not] at ha2
        simp only [hst]
        split at h
        · rename_i s x T T2 hargs hats
          have hops : (Op.call ⟨.builtin .append, args, ats⟩).operands.toList = args.toList := by simp [Op.operands, Call.operands]
          simp only [hops, hargs, List.all_cons, List.all_nil, Bool.and_true, Bool.and_eq_true] at hav
          simp only [tmpsOf, hops, hargs, List.append_nil] at ha2
          have hopd : ∀ (y : Operand) (v : CV), y = s ∨ y = x → (st.set d (.c v)).opd y = st.opd y := by
            intro y v hy
            cases y with
            | tmp i =>
              have hid : i ≠ d := by
                intro e
                subst e
                rcases hy with rfl | rfl <;> exact ha2 (by simp)
              simp only [St.opd, setSt_get_ne hid]
            | _ => rfl
          have hopdT : ∀ (T : TypeId) (y : Operand) (v : CV), y = s ∨ y = x → (st.set d (.c v)).opdT C.P T y = st.opdT C.P T y := by
            intro T y v hy
            cases y with
            | const z => rfl
            | tmp i => exact hopd _ v hy
            | _ => rfl
          have hsav : (st.opdT C.P T s).all (CV.avoids d) = true := by
            cases s with
            | const z =>
              simp only [St.opdT]
              split
              · split
                · rename_i y _ _
                  have hfr : ∀ y : Ty, (y.fresh).all (CV.avoids d) = true := by
                    intro y
                    induction y with
                    | pair a b iha ihb => simp only [Ty.fresh, List.all_append, iha, ihb, Bool.and_self]
                    | _ => rfl
                  exact hfr y
                · exact hav.1
              · exact hav.1
            | tmp i => exact hav.1
            | _ => exact hav.1
          rw [aAppend_sel] at h
          cases dst with
          | none => cases h
          | some d' =>
            simp only [bne_iff_ne, ne_eq, hd, Option.some.injEq, Bool.and_eq_true, Bool.not_eq_true', List.contains_eq_mem, decide_eq_false_iff_not] at ha1
            obtain ⟨ht', hdd⟩ := ha1
            have htd : t ≠ d' := fun e => ht' (e ▸ ht)
            simp only at h
            cases hsel : appSel C (ownAt st) T T2 (st.opdT C.P T s) (st.opdT C.P T2 x) with
            | none => rw [hsel] at h; cases h
            | some y =>
              rw [hsel] at h
              simp only [Option.bind_some] at h
              have hoff := appSel_off hsav hsel
              -- the state that is come to
              have hput : ∃ f : St → St, (f = id ∨ f = fun st => st.giveUpAll (Place.inSlot d')) ∧ K ((f (y.1.run st)).set d' y.2) = some r ∧
                  ∀ v, ((y.1.run (st.set d (.c v))).put false d' y.2 K') = K' ((f (y.1.run (st.set d (.c v)))).set d' y.2) := by
                have hge : ∀ v, (y.1.run (st.set d (.c v))).get d' = (y.1.run st).get d' := fun v => Chg.get (fun e => hdd e.symm)
                simp only [St.put] at h ⊢
                cases how : ((y.1.run st).get d').hasOwn with
                | false => rw [how] at h; exact ⟨id, .inl rfl, h, fun v => by rw [hge, how]; rfl⟩
                | true =>
                  rw [how] at h
                  simp only at h
                  split at h
                  · rename_i hall
                    exact ⟨_, .inr rfl, h, fun v => by rw [hge, how]; simp only [hall, if_true]⟩
                  · cases h
              obtain ⟨f, hf, h1, h2⟩ := hput
              obtain ⟨st2, h3, h4⟩ := hK _ h1
              rw [hrun, setSt_get_ne htd, setSt_get_ne hdd] at h3
              -- what was changed, all told
              have hT : ∃ F : St → St, (f (y.1.run st) = F st) ∧ (∀ v, f (y.1.run (st.set d (.c v))) = F (st.set d (.c v))) ∧
                  (∀ v, (n.bind fun n => ptVal n ((F st).get t)) = some v → (n.bind fun n => ptVal n (st.get t)) = some v ∧ (F st).set d (.c v) = F (st.set d (.c v))) := by
                have base : ∀ v, (n.bind fun n => ptVal n ((y.1.run st).get t)) = some v → (n.bind fun n => ptVal n (st.get t)) = some v ∧ (y.1.run st).set d (.c v) = y.1.run (st.set d (.c v)) := by
                  intro v hv
                  rcases Chg.tame hoff with e | ⟨g, hg, hr⟩
                  · rw [e] at hv ⊢; exact ⟨hv, rfl⟩
                  · rw [hr] at hv ⊢
                    rw [hr]
                    exact look_mapP hg st hv
                rcases hf with rfl | rfl
                · exact ⟨fun st => y.1.run st, rfl, fun v => rfl, base⟩
                · refine ⟨fun st => (y.1.run st).giveUpAll (Place.inSlot d'), rfl, fun v => rfl, fun v hv => ?_⟩
                  have tm := tame_up (bad := Place.inSlot d') (d := d) (by simp only [Place.inSlot, beq_eq_false_iff_ne, ne_eq]; exact hdd)
                  obtain ⟨k1, k2⟩ := (show (n.bind fun n => ptVal n ((y.1.run st).get t)) = some v ∧ ((y.1.run st).giveUpAll (Place.inSlot d')).set d (.c v) = ((y.1.run st).set d (.c v)).giveUpAll (Place.inSlot d') from by
                    cases n with
                    | none => cases hv
                    | some n =>
                      simp only [Option.bind_some] at hv ⊢
                      have hv' : ptVal n (((y.1.run st).mapP _).get t) = some v := hv
                      rw [St.get_mapP _ tm.undef] at hv'
                      obtain ⟨k1, k2⟩ := ptVal_mapP tm hv'
                      exact ⟨k1, mapP_setc k2 _⟩)
                  obtain ⟨k3, k4⟩ := base v k1
                  exact ⟨k3, by simp only; rw [k2, k4]⟩
              obtain ⟨F, hF1, hF2, hF3⟩ := hT
              rw [hF1] at h3
              cases hv : (n.bind fun n => ptVal n ((F st).get t)) with
              | none => rw [hv] at h3; cases h3
              | some v =>
                rw [hv] at h3
                simp only [Option.bind_some] at h3
                split at h3
                · cases h3
                · cases h3
                  obtain ⟨k1, k2⟩ := hF3 v hv
                  refine ⟨st.set d (.c v), ?_, ?_⟩
                  · rw [hrun, k1]
                    simp only [Option.bind_some, hown]
                    rfl
                  · rw [aAppend_sel, hopdT T s v (.inl rfl), hopdT T2 x v (.inr rfl),
                      appSel_congr hsav (fun p t hp => ownAt_set (v := v) hp), hsel]
                    simp only [Option.bind_some]
                    rw [h2, hF2, ← k2, setSt_comm hdd]
                    exact h4
        · cases h
      | _ => cases hp
    | _ => cases hp
  | _ => cases hp

/-! ### an append ahead of what was moved -/

theorem isPt_cell {a : AV} (h : a.isPt = true) : ∃ c, a = .c c ∧ c.isPt = true := by
  unfold AV.isPt at h
  split at h
  · rename_i c; exact ⟨c, rfl, h⟩
  · cases h

theorem lend_isPt {p : Place} {c : CV} (h : (lend p c).isPt = true) : lend p c = c := by
  cases c <;> first | rfl | cases h

theorem lendAV_isPt {i : Nat} {a : AV} {c : CV} (h : lendAV i a = .c c) (hc : c.isPt = true) : a = .c c := by
  cases a with
  | tup l => cases h
  | one x =>
    obtain ⟨g, cs⟩ := x
    cases cs with
    | nil => cases h
    | cons y r =>
      cases r with
      | cons _ _ => cases h
      | nil =>
        simp only [lendAV, lends, AV.one.injEq, Val.mk.injEq, List.cons.injEq, and_true] at h
        obtain ⟨rfl, h⟩ := h
        have := lend_isPt (p := .slot i 0 0) (c := y) (by rw [h]; exact hc)
        rw [this] at h
        rw [h]

theorem mapCs_own {p : Nat → Place} {f : Place → CV → CV} (hf : ∀ q c, (f q c).isOwn = true → c.isOwn = true) : ∀ {cs : List CV} {i : Nat}, (mapCs p f i cs).any CV.isOwn = true → cs.any CV.isOwn = true
  | [], _, h => h
  | c :: r, i, h => by
    simp only [mapCs, List.any_cons, Bool.or_eq_true] at h ⊢
    exact h.imp (hf _ _) (mapCs_own hf)

theorem tame_own {f : Place → CV → CV} {d i : Nat} (hf : Tame d f) {a : AV} (h : a.hasOwn = false) : (a.mapP i f).hasOwn = false := by
  cases hh : (a.mapP i f).hasOwn with
  | false => rfl
  | true =>
    exfalso
    cases a with
    | one x =>
      have := mapCs_own hf.own (cs := x.cs) hh
      simp only [AV.hasOwn, Val.hasOwn] at h
      rw [h] at this; cases this
    | tup l =>
      simp only [AV.hasOwn, AV.mapP] at h hh
      have key : ∀ (l : List Val) (k : Nat), (mapVals i f k l).any Val.hasOwn = true → l.any Val.hasOwn = true := by
        intro l
        induction l with
        | nil => intro k h; exact h
        | cons x r ih =>
          intro k h
          simp only [mapVals, List.any_cons, Bool.or_eq_true] at h ⊢
          exact h.imp (mapCs_own hf.own) (ih _)
      rw [key l 0 hh] at h; cases h

theorem Chg.tame2 {c : Chg} {t d : Nat} (h1 : c.off d = true) (h2 : c.off t = true) : c = .same ∨ ∃ f, Tame d f ∧ Tame t f ∧ ∀ st, c.run st = st.mapP f := by
  have up : ∀ (p : Place) (d : Nat), (Chg.up p).off d = true → decide (Place.slot d 0 0 = p) = false := by
    intro p d h
    simp only [Chg.off, Bool.not_eq_true'] at h
    simp only [decide_eq_false_iff_not]
    intro e
    subst e
    simp [Place.inSlot] at h
  cases c with
  | same => exact .inl rfl
  | up p => exact .inr ⟨_, tame_up (bad := fun q => decide (q = p)) (up p d h1), tame_up (up p t h2), fun st => rfl⟩
  | bulk p lo t ys => exact .inr ⟨_, tame_bulk, tame_bulk, fun st => rfl⟩

theorem mv_run {ops : Array Oper} {o : Oper} {t d : Nat} (ho : mvOp o = some (t, d)) (st : St) : run1 C ops o st = (if (st.get d).hasOwn then none else some (st.set d (lendAV t (st.get t)))) ∧ o.dst = some d ∧ tmpsOf ops o = [t] ∧ cls C o = .pure ∧ isApp o = false := by
  cases o with
  | mk dst op type pos after guard =>
  cases guard with
  | some _ => simp [mvOp] at ho
  | none =>
    cases dst with
    | none => simp [mvOp] at ho
    | some d0 =>
      cases op with
      | move x =>
        cases x with
        | tmp t0 =>
          simp only [mvOp, Option.some.injEq, Prod.mk.injEq] at ho
          obtain ⟨rfl, rfl⟩ := ho
          refine ⟨?_, rfl, by simp [tmpsOf, Op.operands], rfl, rfl⟩
          have : run1 C ops ⟨some d0, .move (.tmp t0), type, pos, after, none⟩ st = st.put true d0 (lendAV t0 (st.get t0)) some := rfl
          rw [this, St.put]
          cases (st.get d0).hasOwn <;> rfl
        | _ => simp [mvOp] at ho
      | _ => simp [mvOp] at ho

/-- What was moved ahead of an append may be moved behind it. -/
theorem app_push {ops : Array Oper} {p o : Oper} (hp : isApp p = true) (hg : p.guard = none) {t d : Nat} (ho : mvOp o = some (t, d)) (hap : apart ops o p = true)
    (hav : p.op.operands.toList.all (fun x => (st'.opd x).all (CV.avoids d) && (st'.opd x).all (CV.avoids t)) = true) (hpt : (st'.get d).isPt = true)
    {K : St → Option Q} {r : Q} (h1 : run1 C ops o st = some st') (h : runOp C false ops p st' K = some r) :
    runOp C false ops p st (fun st1 => (run1 C ops o st1).bind K) = some r := by
  have hrun := fun st => mv_run (C := C) (ops := ops) ho st
  obtain ⟨hr1, hd, htm, _, _⟩ := hrun st
  rw [hr1] at h1
  split at h1
  · cases h1
  · rename_i hown
    simp only [Option.some.injEq] at h1
    have hown : (st.get d).hasOwn = false := by simpa using hown
    simp only [apart, Bool.and_eq_true] at hap
    obtain ⟨ha1, ha2⟩ := hap
    rw [hd] at ha1
    simp only [Bool.and_eq_true, Bool.not_eq_true', List.contains_eq_mem, decide_eq_false_iff_not, bne_iff_ne, ne_eq] at ha1
    rw [htm] at ha2
    obtain ⟨v, hv, hvp⟩ := isPt_cell hpt
    have hvt : st.get t = .c v ∧ st' = st.set d (.c v) := by
      by_cases hdl : d < st.slots.length
      · have e : st'.get d = lendAV t (st.get t) := by
          rw [← h1]
          simp only [St.get, St.set, List.getD_eq_getElem?_getD, List.getElem?_set, if_true, hdl, Option.getD_some]
        rw [hv] at e
        have := lendAV_isPt e.symm hvp
        exact ⟨this, by rw [← h1, ← e]⟩
      · exfalso
        have e : st'.get d = .undef := by
          rw [← h1]
          simp only [St.get, St.set, List.getD_eq_getElem?_getD, List.getElem?_set, if_true, hdl, if_false, Option.getD_none]
        rw [hv] at e
        simp only [AV.one.injEq, Val.mk.injEq, List.cons.injEq, and_true, true_and] at e
        rw [e] at hvp; cases hvp
    obtain ⟨hvt, hst'⟩ := hvt
    subst hst'
    cases p with
    | mk dst op type pos after guard =>
    cases op with
    | call c =>
      obtain ⟨callee, args, ats⟩ := c
      cases callee with
      | builtin b =>
        cases b with
        | append =>
          simp only at hg
          subst hg
          have hst : ∀ (st : St) (K : St → Option Q), runOp C false ops ⟨dst, .call ⟨.builtin .append, args, ats⟩, type, pos, after, none⟩ st K = (match args.toList, ats.toList with
            | [s, x], [T, T2] => aAppend C st ⟨dst, .call ⟨.builtin .append, args, ats⟩, type, pos, after, none⟩ T T2 (st.opdT C.P T s) (st.opdT C.P T2 x) K
            | _, _ => none) := fun st K => rfl
          rw [hst] at h
          simp only [hst]
          split at h
          · rename_i s x T T2 hargs hats
            have hops : (Op.call ⟨.builtin .append, args, ats⟩).operands.toList = args.toList := by simp [Op.operands, Call.operands]
            simp only [hops, hargs, List.all_cons, List.all_nil, Bool.and_true, Bool.and_eq_true] at hav
            simp only [tmpsOf, hops, hargs, List.append_nil] at ha1
            have hopd : ∀ (y : Operand), y = s ∨ y = x → (st.set d (.c v)).opd y = st.opd y := by
              intro y hy
              cases y with
              | tmp i =>
                have hid : i ≠ d := by
                  intro e
                  subst e
                  rcases hy with rfl | rfl <;> exact ha1.1 (by simp)
                simp only [St.opd, setSt_get_ne hid]
              | _ => rfl
            have hopdT : ∀ (T : TypeId) (y : Operand), y = s ∨ y = x → (st.set d (.c v)).opdT C.P T y = st.opdT C.P T y := by
              intro T y hy
              cases y with
              | const z => rfl
              | tmp i => exact hopd _ hy
              | _ => rfl
            rw [hopd s (.inl rfl)] at hav
            have hsav : ∀ d, (st.opd s).all (CV.avoids d) = true → (st.opdT C.P T s).all (CV.avoids d) = true := by
              intro d hav
              cases s with
              | const z =>
                simp only [St.opdT]
                split
                · split
                  · rename_i y _ _
                    have hfr : ∀ y : Ty, (y.fresh).all (CV.avoids d) = true := by
                      intro y
                      induction y with
                      | pair a b iha ihb => simp only [Ty.fresh, List.all_append, iha, ihb, Bool.and_self]
                      | _ => rfl
                    exact hfr y
                  · exact hav
                · exact hav
              | tmp i => exact hav
              | _ => exact hav
            have hsd := hsav d hav.1.1
            have hst0 := hsav t hav.1.2
            rw [aAppend_sel, hopdT T s (.inl rfl), hopdT T2 x (.inr rfl), appSel_congr hsd (fun p t hp => ownAt_set (v := v) hp)] at h
            rw [aAppend_sel]
            cases dst with
            | none => cases h
            | some d' =>
              simp only at h ⊢
              have hdd : d ≠ d' := fun e => ha1.2 (by rw [e])
              have htd : t ≠ d' := by
                intro e
                simp only [Bool.not_eq_true', List.contains_eq_mem, decide_eq_false_iff_not, List.mem_singleton] at ha2
                exact ha2 e.symm
              cases hsel : appSel C (ownAt st) T T2 (st.opdT C.P T s) (st.opdT C.P T2 x) with
              | none => rw [hsel] at h; cases h
              | some y =>
                rw [hsel] at h
                simp only [Option.bind_some] at h ⊢
                have hoff := appSel_off hsd hsel
                have hofft := appSel_off hst0 hsel
                have hput : ∃ f : St → St, (f = id ∨ f = fun st => st.giveUpAll (Place.inSlot d')) ∧ K ((f (y.1.run (st.set d (.c v)))).set d' y.2) = some r ∧
                    ∀ K' : St → Option Q, ((y.1.run st).put false d' y.2 K') = K' ((f (y.1.run st)).set d' y.2) := by
                  have hge : (y.1.run (st.set d (.c v))).get d' = (y.1.run st).get d' := Chg.get (fun e => hdd e.symm)
                  simp only [St.put, hge] at h ⊢
                  cases how : ((y.1.run st).get d').hasOwn with
                  | false => rw [how] at h; exact ⟨id, .inl rfl, h, fun K' => rfl⟩
                  | true =>
                    rw [how] at h
                    simp only at h
                    split at h
                    · rename_i hall
                      exact ⟨_, .inr rfl, h, fun K' => by simp only [hall, if_true]⟩
                    · cases h
                obtain ⟨f, hf, h2, h3⟩ := hput
                rw [h3]
                -- one change of all cells
                have one : ∀ (g : St → St), (g = id ∨ ∃ m, Tame d m ∧ Tame t m ∧ ∀ st, g st = st.mapP m) → ∀ X : St, X.get t = .c v → (X.get d).hasOwn = false →
                    (g X).get t = .c v ∧ ((g X).get d).hasOwn = false ∧ (g X).set d (.c v) = g (X.set d (.c v)) := by
                  rintro g (rfl | ⟨m, m1, m2, hm⟩) X x1 x2
                  · exact ⟨x1, x2, rfl⟩
                  · rw [hm, hm]
                    refine ⟨?_, ?_, mapP_setc (m1.sim v hvp) X⟩
                    · rw [St.get_mapP m m1.undef, x1]
                      simp only [AV.mapP, Val.mapP, mapCs, m2.sim v hvp]
                    · rw [St.get_mapP m m1.undef]; exact tame_own m1 x2
                have g1 : (y.1.run · : St → St) = id ∨ ∃ m, Tame d m ∧ Tame t m ∧ ∀ st, (y.1.run · : St → St) st = st.mapP m := by
                  rcases Chg.tame2 hoff hofft with e | ⟨m, m1, m2, hm⟩
                  · left; funext X; rw [e]; rfl
                  · exact .inr ⟨m, m1, m2, hm⟩
                have g2 : f = id ∨ ∃ m, Tame d m ∧ Tame t m ∧ ∀ st, f st = st.mapP m := by
                  rcases hf with rfl | rfl
                  · exact .inl rfl
                  · exact .inr ⟨_, tame_up (bad := Place.inSlot d') (by simp only [Place.inSlot, beq_eq_false_iff_ne, ne_eq]; exact hdd), tame_up (by simp only [Place.inSlot, beq_eq_false_iff_ne, ne_eq]; exact htd), fun st => rfl⟩
                obtain ⟨k1, k2, k3⟩ := one _ g1 st hvt hown
                obtain ⟨k4, k5, k6⟩ := one _ g2 _ k1 k2
                rw [(hrun _).1, setSt_get_ne hdd, k5, setSt_get_ne htd, k4]
                simp only [Bool.false_eq_true, if_false, Option.bind_some]
                have hl : lendAV t (AV.c v) = .c v := by
                  simp only [lendAV, lends]
                  cases v <;> first | rfl | cases hvp
                rw [hl, setSt_comm (fun e => hdd e.symm), k6, k3]
                exact h2
          · cases h
        | _ => cases hp
      | _ => cases hp
    | _ => cases hp

theorem lateOk_mv {ops : Array Oper} {ah : List Nat} {i j : Nat} {o p : Oper} {t d : Nat} (h : lateOk ops ah i o st = true) (hj : j < i) (hn : ah.contains j = false) (hp : ops[j]? = some p) (hm : mvOp p = some (t, d)) :
    (st.get d).isPt = true ∧ o.op.operands.toList.all (fun x => (st.opd x).all (CV.avoids d) && (st.opd x).all (CV.avoids t)) = true := by
  simp only [lateOk, Bool.and_eq_true] at h
  have := List.all_eq_true.1 h.2 j (by simpa using hj)
  rw [hn, hp] at this
  simp only [Bool.false_or, Option.bind_some, hm, Bool.and_eq_true] at this
  exact ⟨this.1.2, this.2⟩

/-- An append ahead of all that was only moved. -/
theorem push_all {ops : Array Oper} {o : Oper} {i : Nat} {post : List Nat} {k : St → Option Q} {r : Q} (hi : ops[i]? = some o) (hA : isApp o = true) (hg : o.guard = none) (hl : loose C ops i = true) :
    ∀ (pre : List Nat) (st : St), List.Pairwise (· < ·) pre → (∀ j, j ∈ pre → loose C ops j = false ∧ j < i ∧ ((aheads ops.toList).getD i []).contains j = false ∧ ∃ p t d, ops[j]? = some p ∧ mvOp p = some (t, d) ∧ apart ops p o = true ∧
      ∀ m z, m ≠ j → ops[m]? = some z → z.dst ≠ some d) →
    runIx C ops (pre ++ i :: post) st k = some r →
    (∃ stn, lateOk ops ((aheads ops.toList).getD i []) i o stn = true ∧ ∀ d, (∀ j, j ∈ pre → ∀ p, ops[j]? = some p → p.dst ≠ some d) → stn.get d = st.get d) ∧
      runOp C false ops o st (fun st1 => runIx C ops (pre ++ post) st1 k) = some r
  | [], st, _, _, h => by
    simp only [List.nil_append, runIx, hi, hl, hA, Bool.not_true, Bool.false_or] at h ⊢
    rcases cond_some h with ⟨h1, h2⟩ | ⟨_, h2⟩
    · exact ⟨⟨st, h1, fun d _ => rfl⟩, h2⟩
    · cases h2
  | j :: pre, st, hpw, hp, h => by
    obtain ⟨hlj, hji, hnc, p, t, d, hj, hmv, hap, hdis⟩ := hp j (by simp)
    obtain ⟨hr1, hd, htm, hcl, _⟩ := mv_run (C := C) (ops := ops) hmv st
    have hpc : cls C p ≠ .other := by rw [hcl]; simp
    simp only [List.cons_append, runIx, hj, hlj, Bool.not_false, Bool.true_or, cond_true] at h ⊢
    rw [runOp_eff hpc] at h
    cases hrr : run1 C ops p st with
    | none => rw [hrr] at h; cases h
    | some st' =>
      rw [hrr] at h
      simp only [Option.bind_some] at h
      obtain ⟨⟨stn, h1, h2⟩, h3⟩ := push_all hi hA hg hl pre st' (List.pairwise_cons.1 hpw).2 (fun q hq => hp q (by simp [hq])) h
      obtain ⟨k1, k2⟩ := lateOk_mv h1 hji hnc hj hmv
      have hne : ∀ q, q ∈ pre → q ≠ j := fun q hq e => by have := (List.pairwise_cons.1 hpw).1 q hq; omega
      have hgd : stn.get d = st'.get d := h2 d (fun q hq z hz => hdis q z (hne q hq) hz)
      refine ⟨⟨stn, h1, fun d0 hd0 => ?_⟩, ?_⟩
      · rw [h2 d0 (fun q hq z hz => hd0 q (by simp [hq]) z hz)]
        rw [hr1] at hrr
        split at hrr
        · cases hrr
        · cases hrr
          have : d0 ≠ d := fun e => hd0 j (by simp) p hj (by rw [hd, e])
          exact setSt_get_ne this
      · have hopd : ∀ x, x ∈ o.op.operands.toList → st'.opd x = stn.opd x := by
          intro x hx
          cases x with
          | tmp m =>
            have : stn.get m = st'.get m := h2 m (fun q hq z hz => by
              obtain ⟨_, _, _, z', t', d', hz', hmv', hap', _⟩ := hp q (by simp [hq])
              rw [hz] at hz'; cases hz'
              obtain ⟨_, hd', _⟩ := mv_run (C := C) (ops := ops) hmv' st
              simp only [apart, Bool.and_eq_true, hd'] at hap'
              have h5 := hap'.1.1
              simp only [Bool.not_eq_true', List.contains_eq_mem, decide_eq_false_iff_not, tmpsOf, List.mem_append, not_or] at h5
              rw [hd']
              intro e
              cases e
              exact h5.1 (List.mem_filterMap.2 ⟨_, hx, rfl⟩))
            simp only [St.opd, this]
          | _ => rfl
        have hav : o.op.operands.toList.all (fun x => (st'.opd x).all (CV.avoids d) && (st'.opd x).all (CV.avoids t)) = true := by
          refine List.all_eq_true.2 fun x hx => ?_
          rw [hopd x hx]
          exact List.all_eq_true.1 k2 x hx
        have := app_push hA hg hmv hap hav (by rw [← hgd]; exact k1) hrr h3
        rw [← this]
        congr 1
        funext st1
        rw [runOp_eff hpc]

end
end Go.Vai
