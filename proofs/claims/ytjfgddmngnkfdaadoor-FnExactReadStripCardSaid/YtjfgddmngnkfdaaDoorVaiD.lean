/- A lemma text on a verified interpreter without memory (part VaiD). No conditions. -/
import Derived.Test.YtjfgddmngnkfdaaDoorVaiN
import Derived.Test.YtjfgddmngnkfdaaDoorVai16
/- VAI D: REGIONS WHOSE ORDER IS DRAWN: effects that pass one another. -/
namespace Go.Vai
open Go

inductive Eff where
  | none
  | set (d : Nat) (a : AV)
  | alloc (d : Nat) (cs : List CV)
  | boxmod (b o : Nat) (new : List CV)

def Eff.apply (e : Eff) (st : St) : Option St :=
  match e with
  | .none => some st
  | .set d a => st.put true d a some
  | .alloc d cs => st.newBox d cs some
  | .boxmod b o new => st.write true b o new some

section
variable {C : Ctx} {st st' : St} {Q : Type}

theorem put_nat (d : Nat) (a : AV) (k : St → Option Q) : st.put true d a k = (st.put true d a some).bind k := by
  unfold St.put
  split <;> rfl

theorem newBox_nat (d : Nat) (cs : List CV) (k : St → Option Q) : st.newBox d cs k = (st.newBox d cs some).bind k := by
  unfold St.newBox
  split
  · split
    · rfl
    · split
      · exact put_nat ..
      · rfl
  · rfl

theorem write_nat (b o : Nat) (new : List CV) (k : St → Option Q) : st.write true b o new k = (st.write true b o new some).bind k := by
  unfold St.write
  repeat' split
  all_goals rfl

def pureEff (o : Oper) (a : AV) : Eff :=
  match o.dst with
  | some d => .set d a
  | none => .none

def storeEff (C : Ctx) (T : TypeId) (a x : AV) : Option Eff :=
  match x with
  | .one v => match sizeAt C.P T with
    | some n => if v.cs.length = n then (match a with
      | .one ⟨false, [.ptr b o]⟩ => if v.cs.all CV.isVal then some (.boxmod b o v.cs) else none
      | _ => none) else none
    | none => none
  | .tup _ => none

def effW (C : Ctx) (st : St) (o : Oper) : Option Eff :=
  match o.op with
  | .assign x => match o.dst with
    | none => none
    | some d => match st.opdT C.P o.type x with
      | .one v => if v.cs.all CV.isVal then some (.set d (.one v)) else none
      | .tup _ => none
  | .store T a x => match o.dst with
    | none => storeEff C T (st.opd a) (st.opdT C.P T x)
    | some _ => none
  | .alloc T => match o.dst, ty? C.P T with
    | some d, some t => some (.alloc d t.fresh)
    | _, _ => none
  | .call c => match c.callee with
    | .builtin .append => match c.args.toList, c.argTypes.toList, o.dst with
      | [s, x], [T, T2], some d => (appE C T T2 (st.opdT C.P T s) (st.opdT C.P T2 x) some).map (.set d)
      | _, _, _ => none
    | _ => (aop C st o some).map (pureEff o)
  | _ => (aop C st o some).map (pureEff o)

theorem pure_eff (o : Oper) (k : St → Option Q) : pureStep C true st o k = (((aop C st o some).map (pureEff o)).bind (·.apply st)).bind k := by
  unfold pureStep
  rw [aop_nat]
  cases aop C st o some with
  | none => rfl
  | some a =>
    simp only [Option.bind_some, Option.map_some, pureEff]
    cases o.dst with
    | none => rfl
    | some d => exact put_nat ..

theorem store_eff (T : TypeId) (a x : AV) (k : St → Option Q) : aStore C true st T a x k = ((storeEff C T a x).bind (·.apply st)).bind k := by
  unfold aStore storeEff
  cases x with
  | tup l => rfl
  | one v =>
    simp only
    cases sizeAt C.P T with
    | none => rfl
    | some n =>
      simp only
      split
      · split
        · split
          · exact write_nat ..
          · rfl
        · rfl
        · rename_i h1 h2
          split
          · exact absurd rfl (h1 _ _)
          · rfl
      · rfl

theorem appE_nat (T T2 : TypeId) (s x : AV) (k : AV → Option Q) : appE C T T2 s x k = (appE C T T2 s x some).bind k := by
  unfold appE
  cases elemTy C.P T with
  | none => rfl
  | some et =>
    obtain ⟨e, t⟩ := et
    split
    · rename_i e2 t2 u hh1 hh2
      cases hh1
      cases bytesAt C.P e with
      | none => rfl
      | some b =>
        cases newElems t x with
        | none => rfl
        | some new =>
          simp only
          split
          · cases decide (new.length * b ≤ 70368744177664) with
            | false => rfl
            | true =>
              simp only [cond_true]
              cases decide (new.length ≤ 70368744177664) <;> rfl
          · rfl
    · rfl

theorem step_eff {o : Oper} (hc : cls C o ≠ .other) (k : St → Option Q) : step C true st o k = ((effW C st o).bind (·.apply st)).bind k := by
  cases o with
  | mk dst op type pos after guard =>
    cases op with
    | assign x =>
      cases dst with
      | none => rfl
      | some d =>
        simp only [step, effW, aAssign]
        cases hx : st.opdT C.P type x with
        | tup l => rfl
        | one v =>
          simp only
          split
          · exact put_nat ..
          · rfl
    | store T a x =>
      cases dst with
      | some d => rfl
      | none =>
        exact store_eff ..
    | alloc T =>
      simp only [step, effW, aAlloc]
      cases dst with
      | none => rfl
      | some d =>
        cases ty? C.P T with
        | none => rfl
        | some t => exact newBox_nat ..
    | box T x => exact absurd rfl hc
    | call c =>
      obtain ⟨callee, args, ats⟩ := c
      cases callee with
      | builtin b =>
        cases b with
        | append =>
          simp only [step, effW]
          split
          · rename_i s x T T2 ha ht
            rw [ha, ht]
            cases dst with
            | none => rfl
            | some d =>
              simp only
              rw [appE_nat]
              cases appE C T T2 (st.opdT C.P T s) (st.opdT C.P T2 x) some with
              | none => rfl
              | some v => exact put_nat ..
          · rename_i h1
            split
            · rename_i ha ht
              exact absurd ht (h1 _ _ _ _ ha)
            · rfl
        | clear => exact absurd rfl hc
        | copy => exact absurd rfl hc
        | _ => exact pure_eff _ k
      | value f =>
        simp only [step]
        have go : (if isIO C f = true then aCallIO C st ⟨dst, .call ⟨.value f, args, ats⟩, type, pos, after, guard⟩ (st.opd f) (st.argAVs C.P args.toList ats.toList) k
            else pureStep C true st ⟨dst, .call ⟨.value f, args, ats⟩, type, pos, after, guard⟩ k) = ((effW C st ⟨dst, .call ⟨.value f, args, ats⟩, type, pos, after, guard⟩).bind (·.apply st)).bind k := by
          split
          · rename_i hio
            exact absurd (by simp [cls, hio]) hc
          · exact pure_eff _ k
        cases isRW C (st.opd f) <;> exact go
      | invoke x n => exact pure_eff _ k
    | _ => exact pure_eff _ k

/-! ### tests -/

def boolAt (st : St) (d : Nat) : Option Bool :=
  match lendAV d (st.get d) with
  | .one ⟨false, [.v (.bool b)]⟩ => some b
  | _ => none

theorem set_known {st : St} {d : Nat} {b : Bool} (he : lendAV d (st.get d) = .one ⟨false, [.v (.bool b)]⟩) : st.set d (.c (.v (.bool b))) = st := by
  have hg' : st.get d = .c (.v (.bool b)) := by
    cases hx : st.get d with
    | tup l => rw [hx] at he; cases he
    | one x =>
      obtain ⟨xa, xcs⟩ := x
      rw [hx] at he
      simp only [lendAV, AV.one.injEq, Val.mk.injEq] at he
      obtain ⟨rfl, hg⟩ := he
      match xcs, hg with
      | [c], hg =>
        simp only [lends, List.cons.injEq, and_true] at hg
        cases c <;> simp only [lend] at hg <;> first | cases hg | skip
        rfl
      | [], hg => cases hg
      | _ :: _ :: _, hg => simp [lends] at hg
  simp only [St.set]
  rw [← hg']
  simp only [St.get, List.getD_eq_getElem?_getD]
  by_cases hd : d < st.slots.length
  · rw [List.getElem?_eq_getElem hd]
    simp only [Option.getD_some, List.set_getElem_self]
  · rw [List.set_eq_of_length_le (Nat.le_of_not_lt hd)]

theorem test_eq (d : Nat) (k : Bool → St → Option Q) : st.test (.tmp d) k = (boolAt st d).bind fun b => k b st := by
  by_cases h : ∃ b, lendAV d (st.get d) = .one ⟨false, [.v (.bool b)]⟩
  · obtain ⟨b, he⟩ := h
    have he' : st.opd (.tmp d) = .one ⟨false, [.v (.bool b)]⟩ := he
    have := set_known he
    unfold St.test boolAt
    rw [he, he']
    cases b
    · simp only [cond_false, Option.bind_some, this]
    · simp only [cond_true, Option.bind_some, this]
  · have h1 : boolAt st d = none := by
      unfold boolAt
      split
      · rename_i b he; exact absurd ⟨b, he⟩ h
      · rfl
    rw [h1]
    unfold St.test
    split
    · rename_i d' b hd he
      cases hd
      exact absurd ⟨b, he⟩ h
    · rename_i hd; cases hd
    · rfl

def litEff (C : Ctx) (st : St) (o : Oper) : Option Eff :=
  match o.op, o.dst with
  | .buildSlice _ 0 _, some d => (aop C st o some).map fun _ => .set d (.c .emp)
  | _, _ => none

theorem lit_eff {o : Oper} (k : St → Option Q) : litStep C st o k = ((litEff C st o).bind (·.apply st)).bind k := by
  cases o with
  | mk dst op type pos after guard =>
    cases op with
    | buildSlice T n ps =>
      cases dst with
      | none => cases n <;> rfl
      | some d =>
        cases n with
        | succ n => rfl
        | zero =>
          simp only [litStep, litEff]
          rw [aop_nat]
          cases aop C st ⟨some d, .buildSlice T 0 ps, type, pos, after, guard⟩ some with
          | none => rfl
          | some a => exact put_nat ..
    | _ => rfl

/-- What an operation of a region does. -/
def effG (C : Ctx) (ops : Array Oper) (st : St) (o : Oper) : Option Eff :=
  match o.guard with
  | none => match litApp ops o with
    | true => litEff C st o
    | false => effW C st o
  | some (j, want) => match (ops[j]?).bind (·.dst) with
    | some d => match (st.get d).isSkip with
      | true => some (pureEff o .skip)
      | false => (boolAt st d).bind fun b => if b = want then effW C st o else some (pureEff o .skip)
    | none => none

def run1 (C : Ctx) (ops : Array Oper) (o : Oper) (st : St) : Option St := (effG C ops st o).bind (·.apply st)

theorem runOp_eff {ops : Array Oper} {o : Oper} (hc : cls C o ≠ .other) (k : St → Option Q) : runOp C true ops o st k = (run1 C ops o st).bind k := by
  unfold runOp run1 effG
  cases o.guard with
  | none =>
    simp only [Bool.true_and]
    cases litApp ops o with
    | true => exact lit_eff k
    | false => exact step_eff hc k
  | some p =>
    obtain ⟨j, want⟩ := p
    simp only
    have pass : passOver true o st k = ((pureEff o .skip).apply st).bind k := by
      unfold passOver pureEff
      cases o.dst with
      | none => rfl
      | some d => exact put_nat ..
    cases (ops[j]?).bind (·.dst) with
    | none => rfl
    | some d =>
      simp only
      cases (st.get d).isSkip with
      | true => exact pass
      | false =>
        simp only [test_eq]
        cases boolAt st d with
        | none => rfl
        | some b =>
          simp only [Option.bind_some]
          split
          · exact step_eff hc k
          · exact pass

/-! ### what an operation looks at -/

structure Sees (ts : List Tmp) (st st' : St) : Prop where
  get : ∀ t, t ∈ ts → st'.get t = st.get t

def BoxLe (st st' : St) : Prop := ∀ b x, st.boxes.getD b none = some x → st'.boxes.getD b none = some x

def opTmps (o : Oper) : List Tmp := o.op.operands.toList.filterMap fun | .tmp t => some t | _ => none

theorem Sees.opd {o : Oper} (h : Sees (opTmps o) st st') {x : Operand} (hx : x ∈ o.op.operands.toList) : st'.opd x = st.opd x := by
  cases x with
  | tmp t =>
    have : t ∈ opTmps o := by
      simp only [opTmps, List.mem_filterMap]
      exact ⟨_, hx, rfl⟩
    simp only [St.opd, h.get t this]
  | _ => rfl

theorem Sees.opdT {o : Oper} (h : Sees (opTmps o) st st') {x : Operand} (hx : x ∈ o.op.operands.toList) (P : Program) (T : TypeId) : st'.opdT P T x = st.opdT P T x := by
  cases x with
  | tmp t => exact h.opd hx
  | _ => rfl

theorem cellsAt_mono (hb : BoxLe st st') {c : CV} {r : Nat × List CV} (h : cellsAt C st c = some r) : cellsAt C st' c = some r := by
  cases c with
  | ptr b o =>
    simp only [cellsAt] at h ⊢
    split at h
    · rename_i ro cs hg
      rw [hb b _ hg]; exact h
    · cases h
  | _ => exact h

theorem roPtr_mono (hb : BoxLe st st') {b o : Nat} {acc : List (List CV)} {r : (Nat × Nat) × List (List CV)} (h : roPtr st b o acc = some r) : roPtr st' b o acc = some r := by
  unfold roPtr at h ⊢
  split at h
  · rename_i ro cs hg
    rw [hb b _ hg]; exact h
  · cases h

theorem roCaps_mono (hb : BoxLe st st') : ∀ {caps : List (Nat × Nat)} {acc : List (List CV)} {r : List (Nat × Nat) × List (List CV)}, roCaps st caps acc = some r → roCaps st' caps acc = some r
  | [], _, _, h => h
  | (b, o) :: l, acc, r, h => by
    unfold roCaps at h ⊢
    split at h
    · rename_i x acc1 hx
      rw [roPtr_mono hb hx]
      simp only
      split at h
      · rename_i l' acc2 hl
        rw [roCaps_mono hb hl]; exact h
      · cases h
    · cases h

theorem roCs_mono (hb : BoxLe st st') : ∀ {cs : List CV} {acc : List (List CV)} {r : List CV × List (List CV)}, roCs st cs acc = some r → roCs st' cs acc = some r
  | [], _, _, h => h
  | c :: l, acc, r, h => by
    have plain : (match roCs st l acc with
        | some (l, acc) => some (roc c :: l, acc)
        | none => none) = some r → (match roCs st' l acc with
        | some (l, acc) => some (roc c :: l, acc)
        | none => none) = some r := by
      intro h
      split at h
      · rename_i l' acc1 hl
        rw [roCs_mono hb hl]; exact h
      · cases h
    cases c with
    | ptr b o =>
      unfold roCs at h ⊢
      split at h
      · rename_i b' o' acc1 hx
        rw [roPtr_mono hb hx]
        simp only
        split at h
        · rename_i l' acc2 hl
          rw [roCs_mono hb hl]; exact h
        · cases h
      · cases h
    | fn f caps =>
      unfold roCs at h ⊢
      split at h
      · rename_i caps' acc1 hx
        rw [roCaps_mono hb hx]
        simp only
        split at h
        · rename_i l' acc2 hl
          rw [roCs_mono hb hl]; exact h
        · cases h
      · cases h
    | _ => exact plain h

theorem roVals_mono (hb : BoxLe st st') : ∀ {as : List AV} {acc : List (List CV)} {r : List Val × List (List CV)}, roVals st as acc = some r → roVals st' as acc = some r
  | [], _, _, h => h
  | .tup _ :: _, _, _, h => by simp [roVals] at h
  | .one x :: l, acc, r, h => by
    unfold roVals at h ⊢
    split at h
    · rename_i cs acc1 hx
      rw [roCs_mono hb hx]
      simp only
      split at h
      · rename_i l' acc2 hl
        rw [roVals_mono hb hl]; exact h
      · cases h
    · cases h

theorem aLoad_mono (hb : BoxLe st st') {T : TypeId} {a : AV} {r : AV} (h : aLoad C st T a some = some r) : aLoad C st' T a some = some r := by
  unfold aLoad at h ⊢
  split at h
  · split at h
    · rename_i o cs hc
      simp only [cellsAt_mono hb hc]; exact h
    · cases h
  · cases h

theorem aCall_mono (hb : BoxLe st st') {f : AV} {args : List AV} {r : AV} (h : aCall C st f args some = some r) : aCall C st' f args some = some r := by
  unfold aCall at h ⊢
  split at h
  · split at h
    · split at h
      · split at h
        · rename_i hc hio vs bs hr
          simp only [roVals_mono hb hr]; exact h
        · cases h
      · cases h
    · cases h
  · cases h

theorem argAVs_same {o : Oper} (h : Sees (opTmps o) st st') (P : Program) : ∀ (l : List Operand) (ts : List TypeId), (∀ x, x ∈ l → x ∈ o.op.operands.toList) → st'.argAVs P l ts = st.argAVs P l ts
  | [], _, _ => rfl
  | x :: r, T :: ts, hm => by simp only [St.argAVs, h.opdT (hm x (by simp)), argAVs_same h P r ts (fun y hy => hm y (by simp [hy]))]
  | x :: r, [], hm => by simp only [St.argAVs, h.opd (hm x (by simp)), argAVs_same h P r [] (fun y hy => hm y (by simp [hy]))]

theorem aop_mono {o : Oper} (h : Sees (opTmps o) st st') (hb : slotOnly o = true ∨ BoxLe st st') {r : AV} (ha : aop C st o some = some r) : aop C st' o some = some r := by
  have hop : ∀ x, x ∈ o.op.operands.toList → st'.opd x = st.opd x := fun x hx => h.opd hx
  have hopT : ∀ P T x, x ∈ o.op.operands.toList → st'.opdT P T x = st.opdT P T x := fun P T x hx => h.opdT hx P T
  have hopE : ∀ P T x, x ∈ o.op.operands.toList → st'.eqOpd P T x = st.eqOpd P T x := by
    intro P T x hx
    unfold St.eqOpd
    split
    · rfl
    · exact hopT P T x hx
  unfold aop at ha ⊢
  split at ha
  · rename_i x ho; rw [hopT _ _ x (by simp [ho, Op.operands])]; exact ha
  · rename_i c x y ho; rw [hop c (by simp [ho, Op.operands]), hop x (by simp [ho, Op.operands]), hop y (by simp [ho, Op.operands])]; exact ha
  · rename_i t x ho
    rw [hop x (by simp [ho, Op.operands])]
    rcases hb with hb | hb
    · simp [slotOnly, ho] at hb
    · exact aLoad_mono hb ha
  · rename_i x ho; rw [hop x (by simp [ho, Op.operands])]; exact ha
  · rename_i op t x y e ho; rw [hopE _ _ x (by simp [ho, Op.operands]), hopE _ _ y (by simp [ho, Op.operands])]; exact ha
  · rename_i op e x ho; rw [hop x (by simp [ho, Op.operands])]; exact ha
  · rename_i s d x ho; rw [hop x (by simp [ho, Op.operands])]; exact ha
  · rename_i t x f ho; rw [hop x (by simp [ho, Op.operands])]; exact ha
  · rename_i t x f ho; rw [hop x (by simp [ho, Op.operands])]; exact ha
  · rename_i t x i ho; rw [hop x (by simp [ho, Op.operands]), hop i (by simp [ho, Op.operands])]; exact ha
  · rename_i t x i ho; rw [hop x (by simp [ho, Op.operands]), hop i (by simp [ho, Op.operands])]; exact ha
  · rename_i t x lo hi mx ho
    have e : ∀ y : Option Operand, (∀ z, y = some z → z ∈ o.op.operands.toList) → y.map st'.opd = y.map st.opd := by
      intro y hy
      cases y with
      | none => rfl
      | some z => simp only [Option.map_some, hop z (hy z rfl)]
    rw [hop x (by simp [ho, Op.operands]), e lo (fun z hz => by subst hz; simp [ho, Op.operands]), e hi (fun z hz => by subst hz; simp [ho, Op.operands]), e mx (fun z hz => by subst hz; simp [ho, Op.operands])]
    exact ha
  · rename_i t ps ho
    have : ps.toList.map (fun p => (p.1, st'.opd p.2)) = ps.toList.map (fun p => (p.1, st.opd p.2)) :=
      List.map_congr_left fun p hp => by rw [hop p.2 (by simp only [ho, Op.operands]; simp; exact ⟨p.1, by simpa using hp⟩)]
    rw [this]; exact ha
  · rename_i t n ps ho
    have : ps.toList.map (fun p => (p.1, st'.opd p.2)) = ps.toList.map (fun p => (p.1, st.opd p.2)) :=
      List.map_congr_left fun p hp => by rw [hop p.2 (by simp only [ho, Op.operands]; simp; exact ⟨p.1, by simpa using hp⟩)]
    rw [this]; exact ha
  · rename_i t n c ho; rw [hop n (by simp [ho, Op.operands]), hop c (by simp [ho, Op.operands])]; exact ha
  · rename_i x i ho; rw [hop x (by simp [ho, Op.operands])]; exact ha
  · rename_i f x y ho
    have e1 : x.toList.map st'.opd = x.toList.map st.opd := List.map_congr_left fun p hp => hop p (by simp only [ho, Op.operands]; simp; exact .inl (by simpa using hp))
    have e2 : y.toList.map st'.opd = y.toList.map st.opd := List.map_congr_left fun p hp => hop p (by simp only [ho, Op.operands]; simp; exact .inr (by simpa using hp))
    rw [e1, e2]; exact ha
  · rename_i c ho
    have hb : BoxLe st st' := hb.resolve_left (by simp [slotOnly, ho])
    split at ha
    · rename_i f hc
      rw [hop f (by simp [ho, Op.operands, Call.operands, hc]), argAVs_same h C.P c.args.toList c.argTypes.toList (fun x hx => by simp only [ho, Op.operands, Call.operands, hc]; simp; exact .inr (by simpa using hx))]
      exact aCall_mono hb ha
    · rename_i hc
      split at ha
      · rename_i x hx
        rw [hop x (by
          have : x ∈ c.args := by
            have : x ∈ c.args.toList := by rw [hx]; simp
            simpa using this
          simp [ho, Op.operands, Call.operands, hc, this])]
        exact ha
      · cases ha
    · rename_i hc
      split at ha
      · rename_i x hx
        rw [hop x (by
          have : x ∈ c.args := by
            have : x ∈ c.args.toList := by rw [hx]; simp
            simpa using this
          simp [ho, Op.operands, Call.operands, hc, this])]
        exact ha
      · cases ha
    · rename_i hc
      have e1 : c.args.toList.map st'.opd = c.args.toList.map st.opd := List.map_congr_left fun p hp => hop p (by simp only [ho, Op.operands, Call.operands, hc]; simpa using hp)
      rw [e1]; exact ha
    · rename_i hc
      have e1 : c.args.toList.map st'.opd = c.args.toList.map st.opd := List.map_congr_left fun p hp => hop p (by simp only [ho, Op.operands, Call.operands, hc]; simpa using hp)
      rw [e1]; exact ha
    · cases ha
  · cases ha

end
end Go.Vai
