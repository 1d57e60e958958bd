/- A lemma text on a verified interpreter without memory (part VaiE). No conditions. -/
import Derived.Test.YtpabholjoblkbaaVaiD
import Derived.Orders
/- VAI E: REGIONS WHOSE ORDER IS DRAWN: any order does. -/
namespace Go.Vai
open Go

section
variable {C : Ctx} {st st' : St} {Q : Type}

theorem tmpsOf_eq (ops : Array Oper) (o : Oper) : tmpsOf ops o = opTmps o ++ (match o.guard with | some (j, _) => ((ops[j]?).bind (·.dst)).toList | none => []) := rfl

theorem effW_mono {o : Oper} (hc : cls C o ≠ .other) (h : Sees (opTmps o) st st') (hb : slotOnly o = true ∨ cls C o ≠ .pure ∨ BoxLe st st') {e : Eff} (he : effW C st o = some e) : effW C st' o = some e := by
  have dflt : cls C o = .pure → (aop C st o some).map (pureEff o) = some e → (aop C st' o some).map (pureEff o) = some e := by
    intro hp he
    have hb : slotOnly o = true ∨ BoxLe st st' := by
      rcases hb with h | h | h
      · exact .inl h
      · exact absurd hp h
      · exact .inr h
    cases ha : aop C st o some with
    | none => rw [ha] at he; cases he
    | some v => rw [ha] at he; rw [aop_mono h hb ha]; exact he
  cases o with
  | mk dst op type pos after guard =>
    cases op with
    | assign x =>
      have e1 := h.opdT (x := x) (by simp [Op.operands]) C.P type
      simp only [effW] at he ⊢
      rw [e1]; exact he
    | store T a x =>
      have e1 := h.opdT (x := x) (by simp [Op.operands]) C.P T
      have e2 := h.opd (x := a) (by simp [Op.operands])
      simp only [effW] at he ⊢
      rw [e1, e2]; exact he
    | alloc T => exact he
    | box T x => exact absurd rfl hc
    | call c =>
      obtain ⟨callee, args, ats⟩ := c
      cases callee with
      | builtin b =>
        cases b <;> first
          | exact absurd rfl hc
          | exact dflt rfl he
      | value f =>
        refine dflt ?_ he
        simp only [cls] at hc ⊢
        split
        · rename_i hio; rw [if_pos hio] at hc; exact absurd rfl hc
        · rfl
      | invoke x n => exact absurd rfl hc
    | _ => exact dflt rfl he

theorem effG_mono {ops : Array Oper} {o : Oper} (hc : cls C o ≠ .other) (h : Sees (tmpsOf ops o) st st') (hb : slotOnly o = true ∨ cls C o ≠ .pure ∨ BoxLe st st') {e : Eff} (he : effG C ops st o = some e) : effG C ops st' o = some e := by
  have hw : Sees (opTmps o) st st' := ⟨fun t ht => h.get t (by rw [tmpsOf_eq]; exact List.mem_append_left _ ht)⟩
  unfold effG at he ⊢
  cases hg : o.guard with
  | none => rw [hg] at he; exact effW_mono hc hw hb he
  | some p =>
    obtain ⟨j, want⟩ := p
    rw [hg] at he
    simp only at he ⊢
    cases hd : (ops[j]?).bind (·.dst) with
    | none => rw [hd] at he; cases he
    | some d =>
      rw [hd] at he
      simp only at he ⊢
      have hgd : st'.get d = st.get d := h.get d (by rw [tmpsOf_eq, hg]; simp [hd])
      have hb' : boolAt st' d = boolAt st d := by
        simp only [boolAt, hgd]
      rw [hb', hgd]
      cases hsk : (st.get d).isSkip with
      | true => rw [hsk] at he; exact he
      | false =>
      rw [hsk] at he
      simp only at he ⊢
      cases hba : boolAt st d with
      | none => rw [hba] at he; cases he
      | some b =>
        rw [hba] at he
        simp only [Option.bind_some] at he ⊢
        split
        · rename_i hbw
          rw [if_pos hbw] at he
          exact effW_mono hc hw hb he
        · rename_i hbw
          rw [if_neg hbw] at he
          exact he

/-- Where an effect goes. -/
def Eff.at (dst : Option Tmp) : Eff → Prop
  | .none => True
  | .set d _ => dst = some d
  | .alloc d _ => dst = some d
  | .boxmod _ _ _ => True

def Eff.isMod : Eff → Bool
  | .boxmod _ _ _ => true
  | _ => false

def Eff.isAlloc : Eff → Bool
  | .alloc _ _ => true
  | _ => false

theorem pureEff_at (o : Oper) (a : AV) : (pureEff o a).at o.dst ∧ (pureEff o a).isMod = false ∧ (pureEff o a).isAlloc = false := by
  unfold pureEff
  cases o.dst <;> exact ⟨by first | trivial | rfl, rfl, rfl⟩

theorem effW_at {o : Oper} (hc : cls C o ≠ .other) {e : Eff} (he : effW C st o = some e) : e.at o.dst ∧ (cls C o ≠ .store → e.isMod = false) ∧ (cls C o = .pure → e.isAlloc = false) := by
  have dflt : (aop C st o some).map (pureEff o) = some e → e.at o.dst ∧ (cls C o ≠ .store → e.isMod = false) ∧ (cls C o = .pure → e.isAlloc = false) := by
    intro he
    cases ha : aop C st o some with
    | none => rw [ha] at he; cases he
    | some v =>
      rw [ha] at he
      cases he
      exact ⟨(pureEff_at o v).1, fun _ => (pureEff_at o v).2.1, fun _ => (pureEff_at o v).2.2⟩
  cases o with
  | mk dst op type pos after guard =>
    cases op with
    | assign x =>
      simp only [effW] at he
      cases dst with
      | none => cases he
      | some d =>
        simp only at he
        split at he
        · split at he
          · cases he; exact ⟨rfl, fun _ => rfl, fun _ => rfl⟩
          · cases he
        · cases he
    | store T a x =>
      simp only [effW] at he
      cases dst with
      | some d => cases he
      | none =>
        simp only [storeEff] at he
        split at he
        · split at he
          · split at he
            · split at he
              · split at he
                · cases he; exact ⟨trivial, fun h => absurd rfl h, fun h => by cases h⟩
                · cases he
              · cases he
            · cases he
          · cases he
        · cases he
    | alloc T =>
      simp only [effW] at he
      split at he
      · cases he
        exact ⟨rfl, fun _ => rfl, fun h => by cases h⟩
      · cases he
    | box T x => exact absurd rfl hc
    | _ => exact dflt he

theorem effG_at {ops : Array Oper} {o : Oper} (hc : cls C o ≠ .other) {e : Eff} (he : effG C ops st o = some e) : e.at o.dst ∧ (cls C o ≠ .store → e.isMod = false) ∧ (cls C o = .pure → e.isAlloc = false) := by
  unfold effG at he
  cases hg : o.guard with
  | none => rw [hg] at he; exact effW_at hc he
  | some p =>
    obtain ⟨j, want⟩ := p
    rw [hg] at he
    simp only at he
    cases hd : (ops[j]?).bind (·.dst) with
    | none => rw [hd] at he; cases he
    | some d =>
      rw [hd] at he
      simp only at he
      cases hsk : (st.get d).isSkip with
      | true =>
        rw [hsk] at he
        cases he
        exact ⟨(pureEff_at o _).1, fun _ => (pureEff_at o _).2.1, fun _ => (pureEff_at o _).2.2⟩
      | false =>
      rw [hsk] at he
      simp only at he
      cases hba : boolAt st d with
      | none => rw [hba] at he; cases he
      | some b =>
        rw [hba] at he
        simp only [Option.bind_some] at he
        split at he
        · exact effW_at hc he
        · cases he
          exact ⟨(pureEff_at o _).1, fun _ => (pureEff_at o _).2.1, fun _ => (pureEff_at o _).2.2⟩

/-! ### effects, spelled out -/

theorem apply_set {d : Nat} {a : AV} {st1 : St} : (Eff.set d a).apply st = some st1 ↔ (st.get d).hasOwn = false ∧ st1 = st.set d a := by
  simp only [Eff.apply, St.put]
  split
  · rename_i h; simp [h, eq_comm]
  · rename_i h; simp [h]

theorem apply_alloc {d : Nat} {cs : List CV} {st1 : St} : (Eff.alloc d cs).apply st = some st1 ↔ d < st.boxes.length ∧ cs.all CV.solid = true ∧ st.boxes.getD d none = none ∧ (st.get d).hasOwn = false ∧
    st1 = ⟨st.slots.set d (.c (.ptr d 0)), st.boxes.set d (some (false, cs)), st.io⟩ := by
  simp only [Eff.apply, St.newBox]
  split
  · rename_i hd
    cases hs : cs.all CV.solid with
    | false => simp
    | true =>
      simp only [Bool.not_true, Bool.false_eq_true, if_false]
      split
      · rename_i hb
        simp only [St.put]
        have hg : (⟨st.slots, st.boxes.set d (some (false, cs)), st.io⟩ : St).get d = st.get d := rfl
        rw [hg]
        split
        · rename_i h
          simp only [hd, hb, h, true_and, St.set, Option.some.injEq, eq_comm]
        · rename_i h
          simp only [h]
          constructor
          · intro h; cases h
          · rintro ⟨_, _, _, h, _⟩; cases h
      · rename_i x hb
        constructor
        · intro h; cases h
        · rintro ⟨_, _, h, _⟩; rw [hb] at h; cases h
  · rename_i hd
    constructor
    · intro h; cases h
    · rintro ⟨h, _⟩; exact absurd h hd

theorem apply_mod {b o : Nat} {new : List CV} {st1 : St} : (Eff.boxmod b o new).apply st = some st1 ↔ ∃ cs, st.boxes.getD b none = some (false, cs) ∧ o + new.length ≤ cs.length ∧ new.all CV.solid = true ∧
    ((cs.drop o).take new.length).any CV.isOwn = false ∧ st1 = ⟨st.slots, st.boxes.modify b (Option.map fun x => (x.1, splice x.2 o new)), st.io⟩ := by
  simp only [Eff.apply, St.write]
  split
  · rename_i cs hb
    rw [hb]
    simp only [Option.some.injEq, Prod.mk.injEq, true_and]
    constructor
    · intro h
      split at h
      · split at h
        · split at h
          · cases h
          · rename_i h1 h2 h3
            refine ⟨cs, rfl, h1, h2, by simpa using h3, by simpa [eq_comm] using h⟩
        · cases h
      · cases h
    · rintro ⟨cs', rfl, h1, h2, h3, rfl⟩
      rw [if_pos h1, if_pos h2, h3]
      rfl
  · rename_i h
    constructor
    · intro h; cases h
    · rintro ⟨cs, hb, _⟩
      exact absurd hb (h cs)

theorem get_set_ne {d d' : Nat} {a : AV} {bx : List (Option (Bool × List CV))} {io : List CV} (h : d' ≠ d) : (⟨st.slots.set d a, bx, io⟩ : St).get d' = st.get d' := by
  simp only [St.get, List.getD_eq_getElem?_getD]
  rw [List.getElem?_set_ne (fun e => h e.symm)]

theorem Eff.get_ne {e : Eff} {st1 : St} {dst : Option Tmp} (ha : e.at dst) (h : e.apply st = some st1) {t : Nat} (ht : dst ≠ some t) : st1.get t = st.get t := by
  cases e with
  | none => cases h; rfl
  | set d a =>
    obtain ⟨_, rfl⟩ := apply_set.1 h
    exact get_set_ne (fun e => ht (by rw [e]; exact ha))
  | alloc d cs =>
    obtain ⟨_, _, _, _, rfl⟩ := apply_alloc.1 h
    exact get_set_ne (fun e => ht (by rw [e]; exact ha))
  | boxmod b o new =>
    obtain ⟨_, _, _, _, _, rfl⟩ := apply_mod.1 h
    rfl

theorem Eff.boxLe {e : Eff} {st1 : St} (hm : e.isMod = false) (h : e.apply st = some st1) : BoxLe st st1 := by
  cases e with
  | none => cases h; exact fun _ _ h => h
  | set d a =>
    obtain ⟨_, rfl⟩ := apply_set.1 h
    exact fun _ _ h => h
  | alloc d cs =>
    obtain ⟨hd, _, hn, _, rfl⟩ := apply_alloc.1 h
    intro b x hb
    have : b ≠ d := fun e => by subst e; rw [hn] at hb; cases hb
    simp only [List.getD_eq_getElem?_getD] at hb ⊢
    rw [List.getElem?_set_ne (fun e => this e.symm)]; exact hb
  | boxmod b o new => cases hm

theorem Eff.boxSame {e : Eff} {st1 : St} (hm : e.isMod = false) (ha : e.isAlloc = false) (h : e.apply st = some st1) : st1.boxes = st.boxes := by
  cases e with
  | none => cases h; rfl
  | set d a => obtain ⟨_, rfl⟩ := apply_set.1 h; rfl
  | alloc d cs => cases ha
  | boxmod b o new => cases hm

theorem set_modify_comm {α : Type} (l : List α) (d b : Nat) (x : α) (f : α → α) (h : d ≠ b) : (l.set d x).modify b f = (l.modify b f).set d x := by
  apply List.ext_getElem?
  intro i
  simp only [List.getElem?_modify, List.getElem?_set]
  by_cases h1 : d = i
  · subst h1
    simp [h.symm]
  · simp [h1]

theorem Eff.comm {ea eb : Eff} {da db : Option Tmp} {st1 st2 : St} (hm : ea.isMod = false) (hab : eb.isMod = false ∨ ea.isAlloc = false) (ha : ea.at da) (hb : eb.at db) (hne : ∀ d, da = some d → db ≠ some d)
    (h1 : ea.apply st = some st1) (h2 : eb.apply st1 = some st2) : ∃ st1', eb.apply st = some st1' ∧ ea.apply st1' = some st2 := by
  cases ea with
  | none => cases h1; exact ⟨st2, h2, rfl⟩
  | boxmod b o new => cases hm
  | set d a =>
    obtain ⟨k1, rfl⟩ := apply_set.1 h1
    cases eb with
    | none => cases h2; exact ⟨st, rfl, h1⟩
    | set d' a' =>
      have hd : d' ≠ d := fun e => hne d ha (by rw [← e]; exact hb)
      obtain ⟨k2, rfl⟩ := apply_set.1 h2
      refine ⟨st.set d' a', apply_set.2 ⟨by rw [← k2]; exact congrArg _ (get_set_ne (st := st) hd).symm, rfl⟩, apply_set.2 ⟨by rw [← k1]; exact congrArg _ (get_set_ne (st := st) hd.symm), ?_⟩⟩
      simp only [St.set]
      rw [List.set_comm _ _ hd]
    | alloc d' cs =>
      have hd : d' ≠ d := fun e => hne d ha (by rw [← e]; exact hb)
      obtain ⟨k2, k3, k4, k5, rfl⟩ := apply_alloc.1 h2
      refine ⟨_, apply_alloc.2 ⟨k2, k3, k4, by rw [← k5]; exact congrArg _ (get_set_ne (st := st) hd).symm, rfl⟩, apply_set.2 ⟨by rw [← k1]; exact congrArg _ (get_set_ne (st := st) hd.symm), ?_⟩⟩
      simp only [St.set]
      rw [List.set_comm _ _ hd]
    | boxmod b o new =>
      obtain ⟨cs, k2, k3, k4, k5, rfl⟩ := apply_mod.1 h2
      exact ⟨_, apply_mod.2 ⟨cs, k2, k3, k4, k5, rfl⟩, apply_set.2 ⟨k1, rfl⟩⟩
  | alloc d cs =>
    obtain ⟨k0, k1, k2, k3, rfl⟩ := apply_alloc.1 h1
    cases eb with
    | none => cases h2; exact ⟨st, rfl, h1⟩
    | set d' a' =>
      have hd : d' ≠ d := fun e => hne d ha (by rw [← e]; exact hb)
      obtain ⟨m2, rfl⟩ := apply_set.1 h2
      refine ⟨st.set d' a', apply_set.2 ⟨by rw [← m2]; exact congrArg _ (get_set_ne (st := st) hd).symm, rfl⟩, apply_alloc.2 ⟨k0, k1, k2, by rw [← k3]; exact congrArg _ (get_set_ne (st := st) hd.symm), ?_⟩⟩
      simp only [St.set]
      rw [List.set_comm _ _ hd]
    | alloc d' cs' =>
      have hd : d' ≠ d := fun e => hne d ha (by rw [← e]; exact hb)
      obtain ⟨m0, m1, m2, m3, rfl⟩ := apply_alloc.1 h2
      simp only [List.length_set, List.getD_eq_getElem?_getD] at m0 m2
      rw [List.getElem?_set_ne (fun e => hd e.symm)] at m2
      refine ⟨_, apply_alloc.2 ⟨m0, m1, by rw [List.getD_eq_getElem?_getD]; exact m2, by rw [← m3]; exact congrArg _ (get_set_ne (st := st) hd).symm, rfl⟩, apply_alloc.2 ⟨by simpa using k0, k1, ?_, by rw [← k3]; exact congrArg _ (get_set_ne (st := st) hd.symm), ?_⟩⟩
      · rw [List.getD_eq_getElem?_getD] at k2 ⊢
        rw [List.getElem?_set_ne hd]; exact k2
      · simp only
        rw [List.set_comm _ _ hd, List.set_comm _ _ hd]
    | boxmod b o new => rcases hab with h | h <;> cases h

theorem commute {ops : Array Oper} {a b : Oper} (hm : mayPass C ops a b = true) {st1 st2 : St} (h1 : run1 C ops a st = some st1) (h2 : run1 C ops b st1 = some st2) :
    cls C a ≠ .other ∧ cls C b ≠ .other ∧ ∃ st1', run1 C ops b st = some st1' ∧ run1 C ops a st1' = some st2 := by
  simp only [mayPass, Bool.and_eq_true] at hm
  obtain ⟨hap, hm⟩ := hm
  have hcls : (cls C a = .pure ∧ (cls C b = .pure ∨ cls C b = .alloc)) ∨ (cls C a = .alloc ∧ cls C b = .alloc) ∨ (cls C a = .pure ∧ cls C b = .store ∧ slotOnly a = true) := by
    cases ha : cls C a <;> cases hb : cls C b <;> rw [ha, hb] at hm <;> simp_all
  have hca : cls C a ≠ .other := by rcases hcls with ⟨h, _⟩ | ⟨h, _⟩ | ⟨h, _⟩ <;> rw [h] <;> simp
  have hcb : cls C b ≠ .other := by rcases hcls with ⟨_, h | h⟩ | ⟨_, h⟩ | ⟨_, h, _⟩ <;> rw [h] <;> simp
  refine ⟨hca, hcb, ?_⟩
  unfold run1 at h1 h2 ⊢
  cases hea : effG C ops st a with
  | none => rw [hea] at h1; cases h1
  | some ea =>
    rw [hea] at h1
    simp only [Option.bind_some] at h1
    cases heb : effG C ops st1 b with
    | none => rw [heb] at h2; cases h2
    | some eb =>
      rw [heb] at h2
      simp only [Option.bind_some] at h2
      obtain ⟨a1, a2, a3⟩ := effG_at hca hea
      obtain ⟨b1, b2, b3⟩ := effG_at hcb heb
      simp only [apart, Bool.and_eq_true] at hap
      have hda : ∀ t, t ∈ tmpsOf ops b → a.dst ≠ some t := by
        intro t ht e
        have := hap.1
        rw [e] at this
        simp [ht] at this
      have hdb : ∀ t, t ∈ tmpsOf ops a → b.dst ≠ some t := by
        intro t ht e
        have := hap.2
        rw [e] at this
        simp [ht] at this
      have hne : ∀ d, a.dst = some d → b.dst ≠ some d := by
        intro d e e'
        have := hap.1
        rw [e] at this
        simp [e'] at this
      have hma : ea.isMod = false := a2 (by rcases hcls with ⟨h, _⟩ | ⟨h, _⟩ | ⟨h, _⟩ <;> rw [h] <;> simp)
      have hb0 : effG C ops st b = some eb := by
        refine effG_mono hcb ⟨fun t ht => (Eff.get_ne a1 h1 (hda t ht)).symm⟩ ?_ heb
        rcases hcls with ⟨hp, _⟩ | ⟨_, hb⟩ | ⟨hp, _⟩
        · right; right
          have := Eff.boxSame hma (a3 hp) h1
          intro i x hx; rw [← this]; exact hx
        · right; left; rw [hb]; simp
        · right; right
          have := Eff.boxSame hma (a3 hp) h1
          intro i x hx; rw [← this]; exact hx
      have hab : eb.isMod = false ∨ ea.isAlloc = false := by
        rcases hcls with ⟨hp, _⟩ | ⟨_, hb⟩ | ⟨hp, _⟩
        · exact .inr (a3 hp)
        · exact .inl (b2 (by rw [hb]; simp))
        · exact .inr (a3 hp)
      obtain ⟨st1', h3, h4⟩ := Eff.comm hma hab a1 b1 hne h1 h2
      have ha0 : effG C ops st1' a = some ea := by
        refine effG_mono hca ⟨fun t ht => Eff.get_ne b1 h3 (hdb t ht)⟩ ?_ hea
        rcases hcls with ⟨_, hb⟩ | ⟨ha, _⟩ | ⟨_, _, hs⟩
        · right; right
          exact Eff.boxLe (b2 (by rcases hb with h | h <;> rw [h] <;> simp)) h3
        · right; left; rw [ha]; simp
        · exact .inl hs
      exact ⟨st1', by rw [hb0]; exact h3, by rw [ha0]; exact h4⟩

/-- An operation that may pass what is ahead of it can be carried out first. -/
theorem pull {ops : Array Oper} {o : Oper} {i : Nat} {post : List Nat} {k : St → Option Q} {r : Q} (hi : ops[i]? = some o) (hsi : loose C ops i = false) (ho : cls C o ≠ .other) :
    ∀ (pre : List Nat) (st : St), (∀ j, j ∈ pre → loose C ops j = false ∧ ∃ p, ops[j]? = some p ∧ mayPass C ops p o = true) →
    runIx C ops (pre ++ i :: post) st k = some r → ∃ st', run1 C ops o st = some st' ∧ runIx C ops (pre ++ post) st' k = some r
  | [], st, _, h => by
    simp only [List.nil_append, runIx, hi, hsi, Bool.not_false] at h
    rw [runOp_eff ho] at h
    cases hr : run1 C ops o st with
    | none => rw [hr] at h; cases h
    | some st' => rw [hr] at h; exact ⟨st', rfl, h⟩
  | j :: pre, st, hp, h => by
    obtain ⟨hsj, p, hj, hpo⟩ := hp j (by simp)
    have hpc : cls C p ≠ .other := by
      intro e
      simp only [mayPass, Bool.and_eq_true, e] at hpo
      cases hpo.2
    simp only [List.cons_append, runIx, hj, hsj, Bool.not_false] at h ⊢
    rw [runOp_eff hpc] at h
    cases hr : run1 C ops p st with
    | none => rw [hr] at h; cases h
    | some st1 =>
      rw [hr] at h
      simp only [Option.bind_some] at h
      obtain ⟨st2, h1, h2⟩ := pull hi hsi ho pre st1 (fun q hq => hp q (by simp [hq])) h
      obtain ⟨_, _, st1', h3, h4⟩ := commute hpo hr h1
      refine ⟨st1', h3, ?_⟩
      rw [runOp_eff hpc, h4]
      exact h2

/-! ### what must be ahead -/

theorem mem_insAll : ∀ (l s : List Nat) (x : Nat), x ∈ insAll s l → x ∈ s ∨ x ∈ l
  | [], s, x, h => .inl h
  | y :: l, s, x, h => by
    rcases mem_insAll l _ x h with h | h
    · simp only at h
      split at h
      · exact .inl h
      · rcases List.mem_cons.1 h with rfl | h
        · exact .inr (by simp)
        · exact .inl h
    · exact .inr (by simp [h])

theorem fold_mem (acc : List (List Nat)) : ∀ (l : List Edge) (s : List Nat) (x : Nat), x ∈ l.foldl (fun s e => insAll s (e.on :: acc.getD e.on [])) s → x ∈ s ∨ ∃ e, e ∈ l ∧ (x = e.on ∨ x ∈ acc.getD e.on [])
  | [], s, x, h => .inl h
  | e :: l, s, x, h => by
    rcases fold_mem acc l _ x h with h | ⟨e', he, h⟩
    · rcases mem_insAll _ _ _ h with h | h
      · exact .inl h
      · rcases List.mem_cons.1 h with h | h
        · exact .inr ⟨e, by simp, .inl h⟩
        · exact .inr ⟨e, by simp, .inr h⟩
    · exact .inr ⟨e', by simp [he], h⟩

def stepAh (acc : List (List Nat)) (o : Oper) : List (List Nat) :=
  acc ++ [(o.after.toList.filter fun e => Region.binds .any e).foldl (fun s e => insAll s (e.on :: acc.getD e.on [])) []]

/-- 'L' holds whatever is ahead of what it holds: so it holds all that is ahead of what could come next. -/
theorem aheads_ok (L : Nat → Prop) (ops : List Oper) (hcl : ∀ (j : Nat) o, ops[j]? = some o → L j → ∀ e, e ∈ o.after.toList → Region.binds .any e = true → L e.on) (hlt : ∀ (j : Nat) o, ops[j]? = some o → ∀ e, e ∈ o.after.toList → Region.binds .any e = true → e.on < j) :
    ∀ (i : Nat) o, ops[i]? = some o → (∀ e, e ∈ o.after.toList → Region.binds .any e = true → L e.on) → ∀ x, x ∈ (aheads ops).getD i [] → L x := by
  have key : ∀ (rest done : List Oper) (acc : List (List Nat)), done ++ rest = ops → acc.length = done.length →
      (∀ (i : Nat) o, i < acc.length → ops[i]? = some o → (∀ e, e ∈ o.after.toList → Region.binds .any e = true → L e.on) → ∀ x, x ∈ acc.getD i [] → L x) →
      ∀ (i : Nat) o, ops[i]? = some o → (∀ e, e ∈ o.after.toList → Region.binds .any e = true → L e.on) → ∀ x, x ∈ (rest.foldl stepAh acc).getD i [] → L x := by
    intro rest
    induction rest with
    | nil =>
      intro done acc hd hl hA i o hi hp x hx
      rw [List.append_nil] at hd
      subst hd
      exact hA i o (by rw [hl]; exact (List.getElem?_eq_some_iff.1 hi).1) hi hp x hx
    | cons o' rest ih =>
      intro done acc hd hl hA
      refine ih (done ++ [o']) (stepAh acc o') (by simpa using hd) (by simp [stepAh, hl]) ?_
      intro i o hi ho hp x hx
      by_cases hlt' : i < acc.length
      · simp only [stepAh, List.getD_eq_getElem?_getD, List.getElem?_append_left hlt'] at hx
        exact hA i o hlt' ho hp x (by rw [List.getD_eq_getElem?_getD]; exact hx)
      · have hie : i = acc.length := by simp [stepAh] at hi; omega
        subst hie
        have ho' : o = o' := by
          rw [← hd, List.getElem?_append_right (by omega)] at ho
          simp [hl] at ho
          exact ho.symm
        subst ho'
        simp only [stepAh, List.getD_eq_getElem?_getD, List.getElem?_append_right (Nat.le_refl _), Nat.sub_self, List.getElem?_cons_zero, Option.getD_some] at hx
        rcases fold_mem acc _ _ _ (by simpa only [List.getD_eq_getElem?_getD] using hx) with h | ⟨e, he, h⟩
        · cases h
        · obtain ⟨he, hb⟩ := List.mem_filter.1 he
          have hL := hp e he hb
          rcases h with rfl | h
          · exact hL
          · have hel := hlt _ _ ho e he hb
            have hlen : e.on < ops.length := by have := (List.getElem?_eq_some_iff.1 ho).1; omega
            have hops : ops[e.on]? = some ops[e.on] := List.getElem?_eq_getElem hlen
            exact hA e.on _ (by omega) hops (fun e' he' hb' => hcl e.on _ hops hL e' he' hb') x h
  intro i o hi hp x hx
  exact key ops [] [] rfl rfl (fun i o h => by simp at h) i o hi hp x hx

variable {E : Entry} {g : Gh} {a : Act} {w : World}

/-- What is still to come. -/
def left (ops : Array Oper) (listed : Array Bool) : List Nat := (List.range ops.size).filter fun i => !listed.getD i true

theorem getD_listed {listed : Array Bool} {j : Nat} (hj : j < listed.size) : listed.getD j true = listed.getD j false := by
  simp [hj]

theorem getD_set {listed : Array Bool} {i j : Nat} (d : Bool) (hi : i < listed.size) : (listed.setIfInBounds i true).getD j d = if j = i then true else listed.getD j d := by
  by_cases h : j = i
  · subst h
    simp [Array.getD_eq_getD_getElem?, hi]
  · rw [if_neg h]
    simp only [Array.getD_eq_getD_getElem?, Array.getElem?_setIfInBounds]
    rw [if_neg (fun e => h e.symm)]

theorem eval_put {a : Act} {d : Option Tmp} {v : Value} {x : Operand} (h : ∀ t, d = some t → isTmp x t = false) : (a.put d v).eval x = a.eval x := by
  cases d with
  | none => rfl
  | some d =>
    have h := h d rfl
    cases x with
    | tmp t =>
      have ht : t ≠ d := fun e => by simp [isTmp, e] at h
      simp only [Act.put, Act.eval, Array.getD_eq_getD_getElem?, Array.getElem?_setIfInBounds, if_neg (fun e : d = t => ht e.symm)]
    | _ => rfl

theorem keepsOff_eval {o : Oper} {d : Option Tmp} (h : keepsOff d o = true) {a : Act} {v : Value} {x : Operand} (hx : x ∈ o.op.operands.toList) : (a.put d v).eval x = a.eval x := by
  refine eval_put (fun t ht => ?_)
  subst ht
  have := List.all_eq_true.1 (show (o.op.operands.toList.all fun x => !isTmp x t) = true from h) x hx
  simpa using this

theorem put_comm {a : Act} {d d' : Option Tmp} {u v : Value} (h : d ≠ d') : (a.put d u).put d' v = (a.put d' v).put d u := by
  cases d with
  | none => cases d' <;> rfl
  | some d =>
    cases d' with
    | none => rfl
    | some d' =>
      simp only [Act.put]
      rw [Array.setIfInBounds_comm _ _ (fun e => h (by rw [e]))]

/-- An assignment or a store looks at its operands and the memory. -/
theorem put_congr {P : Program} {o : Oper} (hi : isPut o = true) {ρ ρ' : Operand → Value} (h : ∀ x, x ∈ o.op.operands.toList → ρ' x = ρ x) (w : World) : (execOp ρ' o).run P w = (execOp ρ o).run P w := by
  simp only [isPut, Bool.and_eq_true] at hi
  have hi := hi.2
  split at hi
  · rename_i y ho
    have := h y (by simp [ho, Op.operands])
    unfold execOp
    simp only [ho, this]
  · rename_i T x y ho
    have h1 := h x (by simp [ho, Op.operands])
    have h2 := h y (by simp [ho, Op.operands])
    unfold execOp
    simp only [ho, h1, h2]
  · cases hi

theorem put_shape {P : Program} {o : Oper} (hi : isPut o = true) {a : Act} {w : World} {K : Act → World → Prop} (h : o.wp P a w K (fun _ _ _ => False)) :
    ∃ u w', ∀ a' K' X', (∀ x, x ∈ o.op.operands.toList → a'.eval x = a.eval x) → (o.wp P a' w K' X' ↔ K' (a'.put o.dst u) w') := by
  have shape : (∃ u w', (execOp a.eval o).run P w = .ok (.value u) w') ∨ (∃ w', (execOp a.eval o).run P w = .ok .skip w') := by
    unfold Oper.wp at h
    have hi' := hi
    simp only [isPut, Bool.and_eq_true] at hi'
    have hi' := hi'.2
    split at hi'
    · rename_i y ho
      left
      refine ⟨a.eval y, w, ?_⟩
      unfold execOp; rw [ho]; rfl
    · rename_i T x y ho
      right
      have e : (execOp a.eval o).run P w = (Instr.storeAt T (a.eval x) (a.eval y) >>= fun _ => pure .skip : Sem Go.Next).run P w := by
        unfold execOp; rw [ho]
      rw [e] at h ⊢
      simp only [Sem.run_bind] at h ⊢
      cases hs : (Instr.storeAt T (a.eval x) (a.eval y)).run P w with
      | ok u w' => exact ⟨w', rfl⟩
      | halt x' w' =>
        rw [hs] at h
        cases x' <;> exact h.elim
    · cases hi'
  rcases shape with ⟨u, w', hr⟩ | ⟨w', hr⟩
  · refine ⟨u, w', fun a' K' X' ha => ?_⟩
    unfold Oper.wp
    rw [put_congr hi ha, hr]
    exact Iff.rfl
  · refine ⟨undef, w', fun a' K' X' ha => ?_⟩
    unfold Oper.wp
    rw [put_congr hi ha, hr]
    exact Iff.rfl

theorem aBin_quiet {P : Program} {op : BinOp} {T : TypeId} {x y av : AV} (hop : op = .add ∨ op = .sub) (h : aBin P op T x y some = some av) :
    ∃ vx vy vr, x = .c (.v vx) ∧ y = .c (.v vy) ∧ av = .c (.v vr) := by
  unfold aBin at h
  split at h
  · rcases hop with rfl | rfl
    · simp only at h
      split at h
      · simp only [aInt, Option.some.injEq] at h; exact ⟨_, _, _, rfl, rfl, h.symm⟩
      · cases h
    · simp only at h
      split at h
      · simp only [aInt, Option.some.injEq] at h; exact ⟨_, _, _, rfl, rfl, h.symm⟩
      · cases h
  · rcases hop with rfl | rfl <;> (simp only at h; cases h)
  · rcases hop with rfl | rfl
    · simp only [aStr] at h
      rename_i a b
      cases hd : decide (((a.size + b.size : Nat) : Int) > IntKind.i64.max) with
      | true => rw [hd] at h; cases h
      | false => rw [hd] at h; simp only [cond_false, Option.some.injEq] at h; exact ⟨_, _, _, rfl, rfl, h.symm⟩
    · cases h
  · rcases hop with rfl | rfl <;> (split at h <;> first | contradiction | (cases h; exact ⟨_, _, _, rfl, rfl, rfl⟩) | cases h)
  · exfalso; rcases hop with rfl | rfl <;> (split at h <;> first | (simp only at h; cases h) | cases h)
  · exfalso; rcases hop with rfl | rfl <;> (unfold aNilEq at h; split at h <;> first | contradiction | cases h)
  · exfalso; rcases hop with rfl | rfl <;> (unfold aNilEq at h; split at h <;> first | contradiction | cases h)
  · exfalso; rcases hop with rfl | rfl <;> (split at h <;> first | contradiction | cases h)
  · cases h

/-- What is quiet gives the same wherever its operands are the same. -/
theorem quiet_ok (R : Rel C E g st a.tmps w) {p : Oper} (hq : quiet p = true) {s : Bool} {ops : Array Oper} {k : St → Option Q} {r : Q} (h : runOp C s ops p st k = some r) :
    ∃ v, ∀ (ρ : Operand → Value) (w' : World), (∀ x, x ∈ p.op.operands.toList → ρ x = a.eval x) → (execOp ρ p).run C.P w' = .ok (.value v) w' := by
  simp only [quiet, Bool.and_eq_true] at hq
  obtain ⟨⟨hg, _⟩, hq⟩ := hq
  have hg : p.guard = none := by simpa using hg
  unfold runOp at h
  rw [hg] at h
  simp only at h
  split at hq
  · rename_i x i ho
    simp only [step, ho, pureStep, aop] at h
    have hx := opd_rel R x
    obtain ⟨av, v, _, h2, _⟩ := aExtract_ok (C := C) hx h
    refine ⟨v, fun ρ w' hρ => ?_⟩
    have := hρ x (by simp [ho, Op.operands])
    unfold execOp
    simp only [ho, this]
    unfold Instr.extract at h2 ⊢
    split at h2
    · rename_i vs hvs
      split at h2
      · rename_i v' hv
        simp only [Sem.run_pure, Result.ok.injEq] at h2
        obtain ⟨rfl, _⟩ := h2
        rfl
      · cases h2
    · cases h2
  · rename_i x ho
    refine ⟨a.eval x, fun ρ w' hρ => ?_⟩
    have := hρ x (by simp [ho, Op.operands])
    unfold execOp
    simp only [ho, this]
    rfl
  · rename_i T x y yt ho
    simp only [step, ho, pureStep, aop] at h
    rw [aBin_nat] at h
    cases hb : aBin C.P .add T (st.eqOpd C.P T x) (st.eqOpd C.P T y) some with
    | none => rw [hb] at h; cases h
    | some av =>
      obtain ⟨vx, vy, vr, e1, e2, e3⟩ := aBin_quiet (.inl rfl) hb
      have hx : a.eval x = vx := by have := eqOpd_rel R T x; rw [e1] at this; exact this.one_inv.2 (.slot 0 0 0)
      have hy : a.eval y = vy := by have := eqOpd_rel R T y; rw [e2] at this; exact this.one_inv.2 (.slot 0 0 0)
      refine ⟨vr, fun ρ w' hρ => ?_⟩
      have k1 := hρ x (by simp [ho, Op.operands])
      have k2 := hρ y (by simp [ho, Op.operands])
      rw [e1, e2] at hb
      obtain ⟨av', v', m1, m2, m3⟩ := aBin_ok (C := C) (g := g) (w := w') x y (NAV.c (c := .v vx) ⟨rfl, fun _ => rfl⟩) (NAV.c (c := .v vy) ⟨rfl, fun _ => rfl⟩) hb
      simp only [Option.some.injEq] at m1
      subst m1
      rw [e3] at m3
      have hv : v' = vr := m3.one_inv.2 (.slot 0 0 0)
      unfold execOp
      simp only [ho, k1, k2, hx, hy]
      rw [Sem.run_bind, m2, hv]
      rfl
  · rename_i T x y yt ho
    simp only [step, ho, pureStep, aop] at h
    rw [aBin_nat] at h
    cases hb : aBin C.P .sub T (st.eqOpd C.P T x) (st.eqOpd C.P T y) some with
    | none => rw [hb] at h; cases h
    | some av =>
      obtain ⟨vx, vy, vr, e1, e2, e3⟩ := aBin_quiet (.inr rfl) hb
      have hx : a.eval x = vx := by have := eqOpd_rel R T x; rw [e1] at this; exact this.one_inv.2 (.slot 0 0 0)
      have hy : a.eval y = vy := by have := eqOpd_rel R T y; rw [e2] at this; exact this.one_inv.2 (.slot 0 0 0)
      refine ⟨vr, fun ρ w' hρ => ?_⟩
      have k1 := hρ x (by simp [ho, Op.operands])
      have k2 := hρ y (by simp [ho, Op.operands])
      rw [e1, e2] at hb
      obtain ⟨av', v', m1, m2, m3⟩ := aBin_ok (C := C) (g := g) (w := w') x y (NAV.c (c := .v vx) ⟨rfl, fun _ => rfl⟩) (NAV.c (c := .v vy) ⟨rfl, fun _ => rfl⟩) hb
      simp only [Option.some.injEq] at m1
      subst m1
      rw [e3] at m3
      have hv : v' = vr := m3.one_inv.2 (.slot 0 0 0)
      unfold execOp
      simp only [ho, k1, k2, hx, hy]
      rw [Sem.run_bind, m2, hv]
      rfl
  · cases hq

theorem any_sound (hS : ∀ f c, C.ρ f = some c → Sound C f c) {ops : Array Oper} (hd : drawOk C ops = true) {k : St → Option Q} {r : Q} {D : List Deferred} {X : Exit → Act → World → Prop}
    (hn : Next C E D k r (X .normal)) : ∀ (fuel : Nat) (listed : Array Bool) (g : Gh) (st : St) (a : Act) (w : World), listed.size = ops.size → (left ops listed).length = fuel →
      (∀ (j : Nat) o, ops.toList[j]? = some o → listed.getD j false = true → ∀ e, e ∈ o.after.toList → Region.binds .any e = true → listed.getD e.on false = true) →
      Rel C E g st a.tmps w → a.defers = D → runIx C ops (left ops listed) st k = some r → wpAny C.P .any ops X fuel listed a w := by
  simp only [drawOk, Bool.and_eq_true] at hd
  have hlt : ∀ (j : Nat) o, ops.toList[j]? = some o → ∀ e, e ∈ o.after.toList → Region.binds .any e = true → e.on < j := by
    intro j o ho e he hb
    have ho' : ops[j]? = some o := by simpa using ho
    have hj : j < ops.size := (Array.getElem?_eq_some_iff.1 ho').1
    have := List.all_eq_true.1 hd.1 j (by simpa using hj)
    rw [ho'] at this
    simp only [Option.all_some] at this
    have := Array.all_eq_true_iff_forall_mem.1 this e (by simpa using he)
    simpa [hb] using this
  have hsub : ∀ listed i, i ∈ Region.ready .any ops listed → i ∈ left ops listed := by
    intro listed i hi
    simp only [Region.ready, List.mem_filter, Bool.and_eq_true] at hi
    exact List.mem_filter.2 ⟨hi.1, hi.2.1⟩
  have hmem : ∀ listed i, i ∈ left ops listed → i < ops.size ∧ listed.getD i true = false := by
    intro listed i hi
    obtain ⟨h1, h2⟩ := List.mem_filter.1 hi
    exact ⟨by simpa using h1, by simpa using h2⟩
  intro fuel
  induction fuel using Nat.strongRecOn with
  | _ fuel ih' =>
  cases fuel with
  | zero =>
    intro listed g st a w hsz hl hcl R hD h
    have h0 := List.length_eq_zero_iff.1 hl
    refine ⟨?_, ?_⟩
    · cases hr : Region.ready .any ops listed with
      | nil => rfl
      | cons x xs =>
        have := hsub listed x (by rw [hr]; simp)
        rw [h0] at this; cases this
    · rw [h0] at h
      exact hn g st a w h R hD
  | succ fuel =>
    have ih := ih' fuel (Nat.lt_succ_self _)
    intro listed g st a w hsz hl hcl R hD h
    have hpw : List.Pairwise (· < ·) (left ops listed) := List.pairwise_lt_range.filter _
    have hready : ∀ i o, i ∈ left ops listed → ops[i]? = some o → (∀ e, e ∈ o.after.toList → Region.binds .any e = true → listed.getD e.on false = true) → i ∈ Region.ready .any ops listed := by
      intro i o hi ho he
      obtain ⟨h1, h2⟩ := List.mem_filter.1 hi
      refine List.mem_filter.2 ⟨h1, ?_⟩
      rw [h2, ho]
      simp only [Bool.true_and, Option.map_some, Option.getD_some]
      rw [Array.all_eq_true_iff_forall_mem]
      intro e hem
      cases hb : Region.binds .any e with
      | false => rfl
      | true => simp only [Bool.not_true, Bool.false_or]; exact he e (by simpa using hem) hb
    refine ⟨?_, ?_⟩
    · intro hr
      exfalso
      cases hlf : left ops listed with
      | nil => rw [hlf] at hl; cases hl
      | cons i rest =>
        have hi : i ∈ left ops listed := by rw [hlf]; simp
        obtain ⟨his, _⟩ := hmem listed i hi
        obtain ⟨o, ho⟩ : ∃ o, ops[i]? = some o := ⟨_, Array.getElem?_eq_getElem his⟩
        have := hready i o hi ho (fun e he hb => by
          have hei := hlt i o (by simpa using ho) e he hb
          cases hle : listed.getD e.on false with
          | true => rfl
          | false =>
            exfalso
            have hes : e.on < listed.size := by omega
            have hel : e.on ∈ left ops listed := List.mem_filter.2 ⟨by simp; omega, by rw [getD_listed hes, hle]; rfl⟩
            rw [hlf] at hel hpw
            rcases List.mem_cons.1 hel with h | h
            · omega
            · have := List.rel_of_pairwise_cons hpw h
              omega)
        rw [hr] at this; cases this
    · intro i hi
      have hil := hsub listed i hi
      obtain ⟨his, hif⟩ := hmem listed i hil
      obtain ⟨o, ho⟩ : ∃ o, ops[i]? = some o := ⟨_, Array.getElem?_eq_getElem his⟩
      obtain ⟨pre, post, hpp⟩ := List.append_of_mem hil
      rw [hpp] at hpw
      obtain ⟨hp1, hp2, hp3⟩ := List.pairwise_append.1 hpw
      have hpre : ∀ j, j ∈ pre → j < i := fun j hj => hp3 j hj i (by simp)
      have hpost : ∀ j, j ∈ post → i < j := fun j hj => List.rel_of_pairwise_cons hp2 hj
      have hisz : i < listed.size := by omega
      -- its edges
      have hedge : ∀ e, e ∈ o.after.toList → Region.binds .any e = true → listed.getD e.on false = true := by
        intro e he hb
        have := (List.mem_filter.1 hi).2
        rw [ho] at this
        simp only [Bool.and_eq_true, Option.map_some, Option.getD_some] at this
        have := Array.all_eq_true_iff_forall_mem.1 this.2 e (by simpa using he)
        simpa [hb] using this
      -- what is left behind it
      have hleft : left ops (listed.setIfInBounds i true) = pre ++ post := by
        have e1 : left ops (listed.setIfInBounds i true) = (left ops listed).filter fun j => decide (j ≠ i) := by
          simp only [left, List.filter_filter]
          apply List.filter_congr
          intro j hj
          rw [getD_set true hisz]
          by_cases hji : j = i
          · simp [hji]
          · simp [hji]
        rw [e1, hpp, List.filter_append, List.filter_cons]
        simp only [ne_eq, not_true_eq_false, decide_false, Bool.false_eq_true, if_false]
        rw [List.filter_eq_self.2 (fun j hj => by have := hpre j hj; simp; omega), List.filter_eq_self.2 (fun j hj => by have := hpost j hj; simp; omega)]
      have hlen : (left ops (listed.setIfInBounds i true)).length = fuel := by
        rw [hleft]; rw [hpp] at hl; simp at hl ⊢; omega
      have hcl' : ∀ (j : Nat) o, ops.toList[j]? = some o → (listed.setIfInBounds i true).getD j false = true → ∀ e, e ∈ o.after.toList → Region.binds .any e = true → (listed.setIfInBounds i true).getD e.on false = true := by
        intro j o' ho' hj e he hb
        rw [getD_set false hisz] at hj ⊢
        split
        · rfl
        · by_cases hji : j = i
          · subst hji
            have : o' = o := by
              have ho'' : ops[j]? = some o' := by simpa using ho'
              rw [ho] at ho''; cases ho''; rfl
            subst this
            exact hedge e he hb
          · rw [if_neg hji] at hj
            exact hcl j o' ho' hj e he hb
      -- one by one
      have edge_listed : ∀ j, edge o j = true → listed.getD j false = true := by
        intro j hj
        obtain ⟨e, he, hb⟩ := Array.any_eq_true.1 hj
        simp only [Bool.and_eq_true, beq_iff_eq] at hb
        rw [← hb.1]
        exact hedge o.after[e] (by simp) hb.2
      have left_not : ∀ (L : Array Bool), L.size = ops.size → ∀ j, j ∈ left ops L → L.getD j false = false := by
        intro L hL j hj
        obtain ⟨hjs, hjf⟩ := hmem L j hj
        rwa [getD_listed (by omega)] at hjf
      have loose_pure : ∀ j p, j + 1 < ops.size → ops[j]? = some p → (cls C p = .pure ∨ cls C p = .alloc) → loose C ops j = false := by
        intro j p hji hjp hc
        have h1 : lastAlone ops j = false := by
          have : Nat.beq (j + 1) ops.size = false := by
            cases hb : Nat.beq (j + 1) ops.size with
            | false => rfl
            | true => have := Nat.eq_of_beq_eq_true hb; omega
          simp [lastAlone, this]
        simp only [loose, h1, hjp, Bool.false_or]
        rcases hc with hc | hc <;> rw [hc]
      have ahead_listed : ∀ j, j ∈ (aheads ops.toList).getD i [] → listed.getD j false = true := fun j hj =>
        aheads_ok (fun j => listed.getD j false = true) ops.toList hcl hlt i o (by simpa using ho) hedge j hj
      have hpair : ∀ j, j ∈ pre → loose C ops i = true ∨ ∃ p, ops[j]? = some p ∧ mayPass C ops p o = true := by
        intro j hj
        have hji := hpre j hj
        obtain ⟨p, hjp⟩ : ∃ p, ops[j]? = some p := ⟨_, Array.getElem?_eq_getElem (by omega)⟩
        have := List.all_eq_true.1 (List.all_eq_true.1 hd.2 i (by simpa using his)) j (by simpa using hji)
        rw [hjp, ho] at this
        simp only [Bool.or_eq_true] at this
        rcases this with h1 | h1 | h1
        · exfalso
          have hL := ahead_listed j (by simpa using h1)
          rw [left_not listed hsz j (by rw [hpp]; simp [hj])] at hL; cases hL
        · exact .inl h1
        · exact .inr ⟨p, hjp, h1⟩
      by_cases hX : pre ≠ [] ∧ loose C ops i = true
      · obtain ⟨hne, hlo⟩ := hX
        have hpx : ∀ j, j ∈ pre → passX ops (aheads ops.toList) j i = true := by
          intro j hj
          have hnl := left_not listed hsz j (by rw [hpp]; simp [hj])
          simp only [loose, ho, Bool.or_eq_true] at hlo
          rcases hlo with hla | hlo
          · exfalso
            simp only [lastAlone, ho, Bool.and_eq_true] at hla
            have := edge_listed j (List.all_eq_true.1 hla.2 j (by simpa using hpre j hj))
            rw [hnl] at this; cases this
          · have key : ((List.range i).all fun j => ((aheads ops.toList).getD i []).contains j || passX ops (aheads ops.toList) j i) = true := by
              split at hlo
              · exact hlo
              · exact hlo
              · cases hlo
            have := List.all_eq_true.1 key j (by simpa using hpre j hj)
            simp only [Bool.or_eq_true] at this
            rcases this with h1 | h1
            · exfalso
              have hL := ahead_listed j (by simpa using h1)
              rw [hnl] at hL; cases hL
            · exact h1
        have px : ∀ j, passX ops (aheads ops.toList) j i = true → ∃ p, ops[j]? = some p ∧ quiet p = true ∧ isPut o = true ∧ keepsOff o.dst p = true ∧ keepsOff p.dst o = true ∧ p.dst ≠ o.dst ∧ ∀ k, k < ops.size → i < k → j ∈ (aheads ops.toList).getD k [] := by
          intro j hj
          unfold passX at hj
          rw [ho] at hj
          split at hj
          · rename_i p o' hjp ho'
            cases ho'
            simp only [Bool.and_eq_true, bne_iff_ne, ne_eq] at hj
            obtain ⟨⟨⟨⟨⟨h1, h2⟩, h3⟩, h4⟩, h5⟩, h6⟩ := hj
            refine ⟨p, hjp, h1, h2, h3, h4, h5, fun k hk hik => ?_⟩
            have := List.all_eq_true.1 h6 k (by simpa using hk)
            simp only [Bool.or_eq_true] at this
            rcases this with h | h
            · have := Nat.le_of_ble_eq_true h; omega
            · simpa using h
          · cases hj
        have hput : isPut o = true := by
          cases hpc : pre with
          | nil => exact absurd hpc hne
          | cons j _ =>
            obtain ⟨_, _, _, h, _⟩ := px j (hpx j (by rw [hpc]; simp))
            exact h
        have hog : o.guard = none := by
          simp only [isPut, Bool.and_eq_true] at hput
          simpa using hput.1
        have qpure : ∀ p, quiet p = true → cls C p = .pure ∧ p.guard = none ∧ p.dst ≠ none := by
          intro p hq
          simp only [quiet, Bool.and_eq_true] at hq
          obtain ⟨⟨h1, h2⟩, h3⟩ := hq
          refine ⟨?_, by simpa using h1, fun e => by rw [e] at h2; cases h2⟩
          split at h3
          · rename_i hop; simp only [cls, hop]
          · rename_i hop; simp only [cls, hop]
          · rename_i hop; simp only [cls, hop]
          · rename_i hop; simp only [cls, hop]
          · cases h3
        have wnone : ∀ (q : Oper) (tm : Array Value), q.guard = none → Region.wanted q (yielded ops tm) = true := fun q tm hq => wanted_none hq
        -- what is quiet may come behind
        have early : ∀ (n : Nat) (L : Array Bool) (g : Gh) (st : St) (a : Act) (w : World) (pre' : List Nat), pre'.length = n → L.size = ops.size →
            (∀ (j : Nat) o, ops.toList[j]? = some o → L.getD j false = true → ∀ e, e ∈ o.after.toList → Region.binds .any e = true → L.getD e.on false = true) →
            left ops L = pre' ++ i :: post → (∀ e, e ∈ o.after.toList → Region.binds .any e = true → L.getD e.on false = true) → (∀ j, j ∈ pre' → passX ops (aheads ops.toList) j i = true) →
            Rel C E g st a.tmps w → a.defers = D → runIx C ops (pre' ++ i :: post) st k = some r →
            n + post.length ≤ fuel → o.wp C.P a w (wpAny C.P .any ops X (n + post.length) (L.setIfInBounds i true)) (fun _ _ _ => False) := by
          intro n
          induction n with
          | zero =>
            intro L g st a w pre' hpl hLs hLc hLl hLe _ R hD h hfu
            have : pre' = [] := List.length_eq_zero_iff.1 hpl
            subst this
            simp only [List.nil_append, runIx, ho] at h hLl
            have hleft' : left ops (L.setIfInBounds i true) = post := by
              have e1 : left ops (L.setIfInBounds i true) = (left ops L).filter fun j => decide (j ≠ i) := by
                simp only [left, List.filter_filter]
                apply List.filter_congr
                intro j hj
                rw [getD_set true (by omega)]
                by_cases hji : j = i
                · simp [hji]
                · simp [hji]
              rw [e1, hLl, List.filter_cons]
              simp only [ne_eq, not_true_eq_false, decide_false, Bool.false_eq_true, if_false]
              exact List.filter_eq_self.2 (fun j hj => by have := hpost j hj; simp; omega)
            have h1 := runOp_sound R hS h (next := wpAny C.P .any ops X (0 + post.length) (L.setIfInBounds i true)) (X := fun _ _ _ => False) ?_
            · rwa [if_pos (wnone o a.tmps hog)] at h1
            · intro g' st' a' w' hk R' hD'
              refine ih' _ (by omega) _ g' st' a' w' (by simpa using hLs) (by rw [hleft']; omega) ?_ R' (hD'.trans hD) (by rw [hleft']; exact hk)
              intro j o' ho' hj e he hb
              rw [getD_set false (by omega)] at hj ⊢
              split
              · rfl
              · by_cases hji : j = i
                · subst hji
                  have : o' = o := by
                    have ho'' : ops[j]? = some o' := by simpa using ho'
                    rw [ho] at ho''; cases ho''; rfl
                  subst this
                  exact hLe e he hb
                · rw [if_neg hji] at hj
                  exact hLc j o' ho' hj e he hb
          | succ n ihn =>
            intro L g st a w pre' hpl hLs hLc hLl hLe hLp R hD h hfu
            have hLpw : List.Pairwise (· < ·) (left ops L) := List.pairwise_lt_range.filter _
            rw [hLl] at hLpw
            obtain ⟨hq1, _, hq3⟩ := List.pairwise_append.1 hLpw
            have hLpre : ∀ j, j ∈ pre' → j < i := fun j hj => hq3 j hj i (by simp)
            have inl : ∀ j, j ∈ pre' → j ∈ left ops L := fun j hj => by rw [hLl]; simp [hj]
            -- one of them first
            have first : ∀ (pa : List Nat) (j : Nat) (pb : List Nat), pre' = pa ++ j :: pb → (∀ (p : Oper), ops[j]? = some p → ∀ e, e ∈ p.after.toList → Region.binds .any e = true → L.getD e.on false = true) →
                ∃ p v, ops[j]? = some p ∧ quiet p = true ∧ keepsOff o.dst p = true ∧ keepsOff p.dst o = true ∧ p.dst ≠ o.dst ∧
                  (∀ (ρ : Operand → Value) (w' : World), (∀ x, x ∈ p.op.operands.toList → ρ x = a.eval x) → (execOp ρ p).run C.P w' = .ok (.value v) w') ∧
                  o.wp C.P (a.put p.dst v) w (wpAny C.P .any ops X (n + post.length) ((L.setIfInBounds j true).setIfInBounds i true)) (fun _ _ _ => False) := by
              intro pa j pb hpe hje
              have hjm : j ∈ pre' := by rw [hpe]; simp
              obtain ⟨p, hjp, hqp, _, hk1, hk2, hdd, hcl3⟩ := px j (hLp j hjm)
              obtain ⟨hpc, hpg, hpd⟩ := qpure p hqp
              have hji := hLpre j hjm
              have hlj : loose C ops j = false := loose_pure j p (by omega) hjp (.inl hpc)
              have hah : ∀ x, x ∈ (aheads ops.toList).getD j [] → L.getD x false = true := fun x hx =>
                aheads_ok (fun j => L.getD j false = true) ops.toList hLc hlt j p (by simpa using hjp) (hje p hjp) x hx
              have hmay : ∀ q, q ∈ pa → loose C ops q = false ∧ ∃ p', ops[q]? = some p' ∧ mayPass C ops p' p = true := by
                intro q hq
                have hqm : q ∈ pre' := by rw [hpe]; simp [hq]
                have hqj : q < j := by
                  rw [hpe] at hq1
                  exact (List.pairwise_append.1 hq1).2.2 q hq j (by simp)
                obtain ⟨p', hqp', hqq, _⟩ := px q (hLp q hqm)
                refine ⟨loose_pure q p' (by omega) hqp' (.inl (qpure p' hqq).1), p', hqp', ?_⟩
                have := List.all_eq_true.1 (List.all_eq_true.1 hd.2 j (by simp; omega)) q (by simpa using hqj)
                rw [hqp', hjp] at this
                simp only [Bool.or_eq_true] at this
                rcases this with h1 | h1 | h1
                · exfalso
                  have h2 := hah q (by simpa using h1)
                  rw [left_not L hLs q (inl q hqm)] at h2; cases h2
                · rw [hlj] at h1; cases h1
                · exact h1
              have hrun : runIx C ops (pa ++ j :: (pb ++ i :: post)) st k = some r := by
                rw [hpe] at h; simpa using h
              obtain ⟨st1, h1, h2⟩ := pull hjp hlj (by rw [hpc]; simp) pa st hmay hrun
              have hrop : runOp C true ops p st (fun st => runIx C ops ((pa ++ pb) ++ i :: post) st k) = some r := by
                rw [runOp_eff (by rw [hpc]; simp), h1]
                simpa using h2
              obtain ⟨v, hv⟩ := quiet_ok R hqp hrop
              refine ⟨p, v, hjp, hqp, hk1, hk2, hdd, hv, ?_⟩
              have hleftL : left ops (L.setIfInBounds j true) = (pa ++ pb) ++ i :: post := by
                have e1 : left ops (L.setIfInBounds j true) = (left ops L).filter fun q => decide (q ≠ j) := by
                  simp only [left, List.filter_filter]
                  apply List.filter_congr
                  intro q hq
                  rw [getD_set true (by omega)]
                  by_cases hqj : q = j
                  · simp [hqj]
                  · simp [hqj]
                rw [e1, hLl, hpe]
                rw [hpe] at hq1
                obtain ⟨_, hr2, hr3⟩ := List.pairwise_append.1 hq1
                simp only [List.filter_append, List.filter_cons, ne_eq, not_true_eq_false, decide_false, Bool.false_eq_true, if_false]
                rw [List.filter_eq_self.2 (fun q hq => by have := hr3 q hq j (by simp); simp; omega), List.filter_eq_self.2 (fun q hq => by have := List.rel_of_pairwise_cons hr2 hq; simp; omega), if_pos (by simp; omega),
                  List.filter_eq_self.2 (fun q hq => by have := hpost q hq; simp; omega)]
              have hclL : ∀ (q : Nat) o, ops.toList[q]? = some o → (L.setIfInBounds j true).getD q false = true → ∀ e, e ∈ o.after.toList → Region.binds .any e = true → (L.setIfInBounds j true).getD e.on false = true := by
                intro q o' ho' hq e he hb
                rw [getD_set false (by omega)] at hq ⊢
                split
                · rfl
                · by_cases hqj : q = j
                  · subst hqj
                    exact hje o' (by simpa using ho') e he hb
                  · rw [if_neg hqj] at hq
                    exact hLc q o' ho' hq e he hb
              have hwp := runOp_sound R hS hrop (next := fun a1 w1 => o.wp C.P a1 w1 (wpAny C.P .any ops X (n + post.length) ((L.setIfInBounds j true).setIfInBounds i true)) (fun _ _ _ => False)) (X := fun _ _ _ => False) (by
                intro g1 st2 a1 w1 hk R1 hD1
                refine ihn (L.setIfInBounds j true) g1 st2 a1 w1 (pa ++ pb) ?_ (by simpa using hLs) hclL hleftL ?_ ?_ R1 (hD1.trans hD) hk (by omega)
                · rw [hpe] at hpl; simp at hpl ⊢; omega
                · intro e he hb
                  rw [getD_set false (by omega)]
                  split
                  · rfl
                  · exact hLe e he hb
                · intro q hq
                  refine hLp q ?_
                  rw [hpe]
                  rcases List.mem_append.1 hq with h | h <;> simp [h])
              rw [if_pos (wnone p a.tmps hpg)] at hwp
              unfold Oper.wp at hwp
              rw [hv a.eval w (fun _ _ => rfl)] at hwp
              exact hwp
            -- the first of all
            obtain ⟨j0, pb0, hp0⟩ : ∃ j0 pb0, pre' = j0 :: pb0 := by
              cases pre' with
              | nil => simp at hpl
              | cons x xs => exact ⟨x, xs, rfl⟩
            have hj0m : j0 ∈ pre' := by rw [hp0]; simp
            obtain ⟨q0, hq0, _⟩ := px j0 (hLp j0 hj0m)
            have hj0e : ∀ (p : Oper), ops[j0]? = some p → ∀ e, e ∈ p.after.toList → Region.binds .any e = true → L.getD e.on false = true := by
              intro p hp e he hb
              have hel := hlt j0 p (by simpa using hp) e he hb
              have hj0i := hLpre j0 hj0m
              cases hle : L.getD e.on false with
              | true => rfl
              | false =>
                exfalso
                have hmm : e.on ∈ left ops L := List.mem_filter.2 ⟨by simp; omega, by rw [getD_listed (by omega), hle]; rfl⟩
                rw [hLl, hp0] at hmm
                rw [hp0, List.cons_append] at hLpw
                rcases List.mem_cons.1 hmm with h | h
                · omega
                · have := List.rel_of_pairwise_cons hLpw h; omega
            obtain ⟨p0, v0, hjp0, hqp0, hk01, hk02, hdd0, hv0, hw0⟩ := first [] j0 pb0 hp0 hj0e
            obtain ⟨u, w', hu⟩ := put_shape hput hw0
            have same : ∀ (d : Option Tmp) (v : Value), keepsOff d o = true → ∀ x, x ∈ o.op.operands.toList → (a.put d v).eval x = (a.put p0.dst v0).eval x := by
              intro d v hk x hx
              rw [keepsOff_eval hk hx, keepsOff_eval hk02 hx]
            refine (hu a _ _ (fun x hx => (keepsOff_eval hk02 hx).symm)).2 ?_
            have hjoff : ∀ j, j ∈ Region.ready .any ops (L.setIfInBounds i true) → j ∈ pre' ∧ ∀ (p : Oper), ops[j]? = some p → ∀ e, e ∈ p.after.toList → Region.binds .any e = true → L.getD e.on false = true := by
              intro j hj
              have hjl := hsub _ j hj
              have hjL : j ∈ left ops L ∧ j ≠ i := by
                obtain ⟨h1, h2⟩ := List.mem_filter.1 hjl
                rw [getD_set true (by omega)] at h2
                by_cases hji : j = i
                · rw [if_pos hji] at h2; cases h2
                · rw [if_neg hji] at h2
                  exact ⟨List.mem_filter.2 ⟨h1, h2⟩, hji⟩
              have hjs := (hmem L j hjL.1).1
              have hje : ∀ (p : Oper), ops[j]? = some p → ∀ e, e ∈ p.after.toList → Region.binds .any e = true → (L.setIfInBounds i true).getD e.on false = true := by
                intro p hp e he hb
                have := (List.mem_filter.1 hj).2
                rw [hp] at this
                simp only [Bool.and_eq_true, Option.map_some, Option.getD_some] at this
                have := Array.all_eq_true_iff_forall_mem.1 this.2 e (by simpa using he)
                simpa [hb] using this
              have hjp : j ∈ pre' := by
                have := hjL.1
                rw [hLl] at this
                rcases List.mem_append.1 this with h | h
                · exact h
                · exfalso
                  rcases List.mem_cons.1 h with h | h
                  · exact hjL.2 h
                  · have hij := hpost j h
                    obtain ⟨_, _, _, _, _, _, _, hcl3⟩ := px j0 (hLp j0 hj0m)
                    have hin := hcl3 j hjs hij
                    obtain ⟨q, hq⟩ : ∃ q, ops[j]? = some q := ⟨_, Array.getElem?_eq_getElem hjs⟩
                    have hcLi : ∀ (k : Nat) o', ops.toList[k]? = some o' → (L.setIfInBounds i true).getD k false = true → ∀ e, e ∈ o'.after.toList → Region.binds .any e = true → (L.setIfInBounds i true).getD e.on false = true := by
                      intro k o' ho' hk e he hb
                      rw [getD_set false (by omega)] at hk ⊢
                      split
                      · rfl
                      · by_cases hki : k = i
                        · subst hki
                          have : o' = o := by
                            have ho'' : ops[k]? = some o' := by simpa using ho'
                            rw [ho] at ho''; cases ho''; rfl
                          subst this
                          exact hLe e he hb
                        · rw [if_neg hki] at hk
                          exact hLc k o' ho' hk e he hb
                    have hl0 := aheads_ok (fun j => (L.setIfInBounds i true).getD j false = true) ops.toList hcLi hlt j q (by simpa using hq) (hje q hq) j0 hin
                    have hj0i := hLpre j0 hj0m
                    rw [getD_set false (by omega), if_neg (by omega), left_not L hLs j0 (inl j0 hj0m)] at hl0
                    cases hl0
              refine ⟨hjp, fun p hp e he hb => ?_⟩
              have := hje p hp e he hb
              have hel := hlt j p (by simpa using hp) e he hb
              have hji := hLpre j hjp
              rwa [getD_set false (by omega), if_neg (by omega)] at this
            rw [show n + 1 + post.length = (n + post.length) + 1 by omega]
            refine ⟨fun hr => ?_, fun j hj => ?_⟩
            · exfalso
              have hj0i := hLpre j0 hj0m
              have hjr : j0 ∈ Region.ready .any ops (L.setIfInBounds i true) := by
                refine List.mem_filter.2 ⟨by simp; omega, ?_⟩
                rw [getD_set true (by omega), if_neg (by omega), getD_listed (by omega), left_not L hLs j0 (inl j0 hj0m), hjp0]
                simp only [Bool.not_false, Bool.true_and, Option.map_some, Option.getD_some]
                rw [Array.all_eq_true_iff_forall_mem]
                intro e hem
                cases hb : Region.binds .any e with
                | false => rfl
                | true =>
                  simp only [Bool.not_true, Bool.false_or]
                  have hel := hlt j0 p0 (by simpa using hjp0) e (by simpa using hem) hb
                  rw [getD_set false (by omega), if_neg (by omega)]
                  exact hj0e p0 hjp0 e (by simpa using hem) hb
              rw [hr] at hjr; cases hjr
            · obtain ⟨hjp', hje'⟩ := hjoff j hj
              obtain ⟨pa, pb, hpab⟩ := List.append_of_mem hjp'
              obtain ⟨p, v, hjp, hqp, hk1, hk2, hdd, hv, hw⟩ := first pa j pb hpab hje'
              have hw2 := (hu (a.put p.dst v) _ _ (same p.dst v hk2)).1 hw
              obtain ⟨_, hpg, _⟩ := qpure p hqp
              unfold wpOp
              rw [hjp]
              simp only
              rw [if_pos (wnone p _ hpg)]
              left
              unfold Oper.wp
              rw [hv _ w' (fun x hx => keepsOff_eval hk1 hx)]
              show wpAny C.P .any ops X (n + post.length) ((L.setIfInBounds i true).setIfInBounds j true) ((a.put o.dst u).put p.dst v) w'
              have hij : i ≠ j := by have := hLpre j hjp'; omega
              rw [put_comm (fun e => hdd e.symm), Array.setIfInBounds_comm _ _ hij]
              exact hw2
        have hln : pre.length + post.length = fuel := by rw [hleft] at hlen; simpa using hlen
        have hfin := early pre.length listed g st a w pre rfl hsz hcl hpp hedge hpx R hD (by rw [← hpp]; exact h) (by omega)
        obtain ⟨u, w', hu⟩ := put_shape hput hfin
        unfold wpOp
        rw [ho]
        simp only
        rw [if_pos (wnone o a.tmps hog)]
        left
        have h1 := (hu a _ _ (fun _ _ => rfl)).1 hfin
        rw [hln] at h1
        exact (hu a _ _ (fun _ _ => rfl)).2 h1
      -- what may pass
      have hmay : ∀ j, j ∈ pre → loose C ops j = false ∧ ∃ p, ops[j]? = some p ∧ mayPass C ops p o = true := by
        intro j hj
        obtain ⟨p, hjp, hm⟩ := (hpair j hj).resolve_left (fun e => hX ⟨fun e' => (by rw [e'] at hj; cases hj), e⟩)
        have hji := hpre j hj
        refine ⟨loose_pure j p (by omega) hjp ?_, p, hjp, hm⟩
        simp only [mayPass, Bool.and_eq_true] at hm
        have := hm.2
        cases hc : cls C p <;> rw [hc] at this <;> first | exact .inl rfl | exact .inr rfl | cases this
      rw [hpp] at h
      have hrun : runOp C (!loose C ops i) ops o st (fun st => runIx C ops (left ops (listed.setIfInBounds i true)) st k) = some r := by
        rw [hleft]
        cases hpf : pre with
        | nil => rw [hpf] at h; simpa only [List.nil_append, runIx, ho] using h
        | cons p pr =>
          have hpm : p ∈ pre := by rw [hpf]; simp
          obtain ⟨_, q, hq, hqm⟩ := hmay p hpm
          have hoc : cls C o ≠ .other := by
            intro e
            simp only [mayPass, Bool.and_eq_true, e] at hqm
            cases hc : cls C q <;> rw [hc] at hqm <;> cases hqm.2
          have hsi : loose C ops i = false := by
            cases hla : loose C ops i with
            | false => rfl
            | true => exact (hX ⟨by rw [hpf]; simp, hla⟩).elim
          rw [← hpf, hsi, Bool.not_false]
          obtain ⟨st', h1, h2⟩ := pull ho hsi hoc pre st hmay h
          rw [runOp_eff hoc, h1]
          exact h2
      have hop := runOp_sound R hS hrun (next := wpAny C.P .any ops X fuel (listed.setIfInBounds i true)) (X := X)
        (fun g' st' a' w' hk R' hD' => ih _ g' st' a' w' (by simpa using hsz) hlen hcl' R' (hD'.trans hD) hk)
      unfold wpOp
      rw [ho]
      simp only
      split
      · rename_i hw
        rw [if_pos hw] at hop
        exact .inl hop
      · rename_i hw
        rw [if_neg hw] at hop
        exact hop

theorem draw_sound (hm : C.P.follows .mixedOrders = true) (hS : ∀ f c, C.ρ f = some c → Sound C f c) {id : Nat} {ops : Array Oper} {k : St → Option Q} {r : Q} {X : Exit → Act → World → Prop}
    (R : Rel C E g st a.tmps w) (hd : drawOk C ops = true) (h : runIx C ops (List.range ops.size) st k = some r) (hn : Next C E a.defers k r (X .normal)) : (Code.region id ops true).wp C.P X a w := by
  have hall : left ops (Array.replicate ops.size false) = List.range ops.size := by
    simp only [left]
    rw [List.filter_eq_self]
    intro i hi
    have hi : i < ops.size := by simpa using hi
    simp [Array.getD_eq_getD_getElem?, hi]
  refine wp_region_any hm (any_sound hS hd hn ops.size (Array.replicate ops.size false) g st a _ (by simp) (by rw [hall]; simp) ?_ (R.grow (Grows.drew w)) rfl ?_)
  · intro j o ho hj
    exfalso
    simp only [Array.getD_eq_getD_getElem?, Array.getElem?_replicate] at hj
    split at hj <;> cases hj
  · rw [hall]; exact h

end
end Go.Vai
