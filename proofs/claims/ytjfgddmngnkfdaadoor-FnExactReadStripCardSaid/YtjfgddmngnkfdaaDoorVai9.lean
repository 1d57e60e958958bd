/- A lemma text on a verified interpreter without memory (part Vai9). No conditions. -/
import Derived.Test.YtjfgddmngnkfdaaDoorVai8
import Derived.Laws.Append
import Derived.Laws.CopyRow
/- VAI 9: APPEND. -/
namespace Go.Vai
open Go

section
variable {C : Ctx} {E : Entry} {g : Gh} {st : St} {tm : Array Value} {w : World}

theorem ER.oneCell {I : Nat → Prop} : ∀ {t : Ty} {x : t.T} {vs : List Value}, ER I w t x vs → ∀ v, v ∈ vs → v.oneCell' = true
  | .int _, _, _, h, v, hv => by simp only [ER] at h; subst h; simp at hv; subst hv; rfl
  | .bool, _, _, h, v, hv => by simp only [ER] at h; subst h; simp at hv; subst hv; rfl
  | .str, _, _, h, v, hv => by simp only [ER] at h; subst h; simp at hv; subst hv; rfl
  | .unit, _, _, h, v, hv => by simp only [ER] at h; subst h; cases hv
  | .pair a b, x, vs, h, v, hv => by
    rw [← List.take_append_drop a.size vs] at hv
    rcases List.mem_append.1 hv with hv | hv
    · exact ER.oneCell h.1 v hv
    · exact ER.oneCell h.2 v hv
  | .slice _, _, _, h, v, hv => by obtain ⟨A, cap, rfl, _⟩ := h; simp at hv; subst hv; rfl

/-- Elements that lie one behind the other from offset 'o' on. -/
def RowAt (g : Gh) (w : World) (t : Ty) (l : List t.T) (cs : Array Value) (o : Nat) : Prop :=
  ∀ i x, l[i]? = some x → ER g.imm w t x (seg cs (o + i * t.size) t.size)

theorem RowAt.length {t : Ty} {l : List t.T} {cs : Array Value} {o : Nat} (h : RowAt g w t l cs o) : (seg cs o (l.length * t.size)).length = l.length * t.size := by
  by_cases h0 : t.size = 0
  · simp [seg, h0]
  · by_cases hl : l = []
    · subst hl; simp [seg]
    · have hpos : 0 < l.length := List.length_pos_iff.2 hl
      have hx := h (l.length - 1) _ (List.getElem?_eq_getElem (by omega))
      have hx := hx.length
      simp only [seg, List.length_take, List.length_drop, Array.length_toList] at hx ⊢
      have : l.length * t.size = (l.length - 1) * t.size + t.size := by
        rw [← Nat.succ_mul]; congr 1; omega
      omega

theorem seg_seg {cs : Array Value} {o n i s : Nat} (h : i + s ≤ n) : seg (seg cs o n).toArray i s = seg cs (o + i) s := by
  simp only [seg, List.drop_take, List.take_take, List.drop_drop]
  congr 1; omega

theorem RowAt.row {t : Ty} {l : List t.T} {cs : Array Value} {o : Nat} (h : RowAt g w t l cs o) : RowOk g w t l (seg cs o (l.length * t.size)).toArray := by
  intro i x hi
  have hlt : i < l.length := (List.getElem?_eq_some_iff.1 hi).1
  have : (i + 1) * t.size ≤ l.length * t.size := Nat.mul_le_mul_right _ hlt
  rw [Nat.add_mul] at this
  rw [seg_seg (by omega)]
  exact h i x hi

theorem RowOk.oneCell {t : Ty} {l : List t.T} {cs : List Value} (h : RowOk g w t l cs.toArray) (hl : cs.length = l.length * t.size) : ∀ v, v ∈ cs → v.oneCell' = true := by
  intro v hv
  obtain ⟨j, hj⟩ := List.mem_iff_getElem?.1 hv
  have hlt : j < cs.length := (List.getElem?_eq_some_iff.1 hj).1
  have hs : 0 < t.size := by
    rcases Nat.eq_zero_or_pos t.size with h0 | h0
    · rw [h0] at hl; omega
    · exact h0
  have hd : j / t.size < l.length := Nat.div_lt_of_lt_mul (by rw [Nat.mul_comm]; omega)
  refine (h (j / t.size) _ (List.getElem?_eq_getElem hd)).oneCell v ?_
  refine List.mem_iff_getElem?.2 ⟨j % t.size, ?_⟩
  simp only [seg, List.getElem?_take, List.getElem?_drop]
  rw [if_pos (Nat.mod_lt _ hs)]
  rw [Nat.mul_comm, Nat.div_add_mod]; exact hj

theorem seg_left {a b : List Value} {i s : Nat} (h : i + s ≤ a.length) : seg (a ++ b).toArray i s = seg a.toArray i s := by
  simp only [seg]
  rw [List.drop_append_of_le_length (by omega), List.take_append_of_le_length (by simp; omega)]

theorem seg_right {a b : List Value} {i s : Nat} : seg (a ++ b).toArray (a.length + i) s = seg b.toArray i s := by
  simp only [seg]
  rw [← List.drop_drop, List.drop_left]

theorem RowOk.append {t : Ty} {l l' : List t.T} {a b : List Value} (h : RowOk g w t l a.toArray) (ha : a.length = l.length * t.size) (h' : RowOk g w t l' b.toArray) :
    RowOk g w t (l ++ l') (a ++ b).toArray := by
  intro i x hi
  by_cases hlt : i < l.length
  · rw [List.getElem?_append_left hlt] at hi
    have : (i + 1) * t.size ≤ l.length * t.size := Nat.mul_le_mul_right _ hlt
    rw [Nat.add_mul] at this
    rw [seg_left (by omega)]
    exact h i x hi
  · rw [List.getElem?_append_right (by omega)] at hi
    have e : i * t.size = a.length + (i - l.length) * t.size := by
      rw [ha, ← Nat.add_mul]; congr 1; omega
    rw [e, seg_right]
    exact h' _ x hi

theorem RowOk.more {t : Ty} {l : List t.T} {a b : List Value} (h : RowOk g w t l a.toArray) (ha : a.length = l.length * t.size) : RowOk g w t l (a ++ b).toArray := by
  have := h.append ha (l' := []) (b := b) (fun i x hi => by simp at hi)
  simpa using this

theorem cells_row {b o n : Nat} {cs : Array Value} {e : TypeId} {fz : Nat × Nat} (h : w.heap[b]? = some (.cells cs e fz)) :
    ∀ j v, (seg cs o n)[j]? = some v → w.cell? ((⟨b, o, none⟩ : Addr).add j) = some v := by
  intro j v hj
  rw [Addr.add_eq, cell_of h]
  simp only [seg, List.getElem?_take, List.getElem?_drop] at hj
  split at hj
  · simpa using hj
  · cases hj

/-- What is handed to append as its second operand: its cells. -/
theorem newElems_ok {t : Ty} {x : AV} {vx : Value} {new : List t.T} (hx : NAV g w x vx) (h : newElems t x = some new) :
    ∃ (A : Option Addr) (cap : Nat) (news : List Value), vx = .slice A new.length cap ∧ news.length = new.length * t.size ∧ RowOk g w t new news.toArray ∧
      ∀ (P : Program) (d : Nat), (Builtin.firstCells t.size new.length vx).run P { w with drawn := d } = .ok news.toArray { w with drawn := d } := by
  have nil : ∀ A cap, vx = .slice A 0 cap → new = [] → ∃ (A : Option Addr) (cap : Nat) (news : List Value), vx = .slice A new.length cap ∧ news.length = new.length * t.size ∧ RowOk g w t new news.toArray ∧
      ∀ (P : Program) (d : Nat), (Builtin.firstCells t.size new.length vx).run P { w with drawn := d } = .ok news.toArray { w with drawn := d } := by
    rintro A cap rfl rfl
    refine ⟨A, cap, [], rfl, by simp, fun i x hi => by simp at hi, fun P d => ?_⟩
    cases A <;> simp [Builtin.firstCells, loadCells, loadCellsFrom]
  unfold newElems at h
  split at h
  · rename_i t' l
    split at h
    · rename_i ht
      subst ht
      cases h
      obtain ⟨A, cap, hv, _, hl⟩ := hx.one_inv.2 (.slot 0 0 0)
      simp only [List.cons.injEq, and_true] at hv
      subst hv
      rcases hl with rfl | ⟨b, off, cs, e, fz, rfl, hb, hh, hel⟩
      · exact nil _ _ rfl rfl
      · have hr : RowAt g w t' l cs off := hel
        refine ⟨_, cap, seg cs off (l.length * t'.size), rfl, hr.length, hr.row, fun P d => ?_⟩
        exact run_firstCells_some (P := P) { w with drawn := d } t'.size l.length _ _ _ _ hr.length (cells_row (w := { w with drawn := d }) hh)
    · cases h
  · rename_i p f lo t' l
    split at h
    · rename_i ht
      subst ht
      cases h
      obtain ⟨A, cap, rfl, hc, hl⟩ := (hx.one_inv.2 (.slot 0 0 0)).1
      rcases hl with h0 | ⟨b, off, n, c, cs, e, rfl, hb, hf, hh, hs, hel⟩
      · have : l = [] := List.length_eq_zero_iff.1 (by omega)
        subst this
        exact nil _ _ rfl rfl
      · have hr : RowAt g w t' l cs (off + lo * t'.size) := hel
        refine ⟨_, cap, seg cs (off + lo * t'.size) (l.length * t'.size), rfl, hr.length, hr.row, fun P d => ?_⟩
        exact run_firstCells_some (P := P) { w with drawn := d } t'.size l.length _ _ _ _ hr.length (cells_row (w := { w with drawn := d }) hh)
    · cases h
  · cases h
    obtain ⟨A, rfl⟩ := hx.one_inv.2 (.slot 0 0 0)
    exact nil _ _ rfl rfl
  · cases h
    exact nil _ _ hx.v_inv rfl
  · cases h

/-- The first of them alone. -/
theorem newElems_take {t : Ty} {x : AV} {vx : Value} {new : List t.T} {n : Nat} (hx : NAV g w x vx) (h : newElems t x = some new) (hn : n < new.length) :
    ∃ (A : Option Addr) (cap : Nat) (news : List Value), vx = .slice A new.length cap ∧ news.length = (new.take n).length * t.size ∧ RowOk g w t (new.take n) news.toArray ∧
      ∀ (P : Program) (d : Nat), (Builtin.firstCells t.size n vx).run P { w with drawn := d } = .ok news.toArray { w with drawn := d } := by
  have tk : ∀ {l : List t.T} {cs : Array Value} {off : Nat}, RowAt g w t l cs off → RowAt g w t (l.take n) cs off := by
    intro l cs off hr i x hi
    rw [List.getElem?_take] at hi
    split at hi
    · exact hr i x hi
    · cases hi
  have fin : ∀ {l : List t.T} {cs : Array Value} {off : Nat}, n < l.length → RowAt g w t (l.take n) cs off → ∀ {b : Nat} {e : TypeId} {fz : Nat × Nat} (cap : Nat), w.heap[b]? = some (.cells cs e fz) →
      ∀ (P : Program) (d : Nat), (Builtin.firstCells t.size n (.slice (some ⟨b, off, none⟩) l.length cap)).run P { w with drawn := d } = .ok (seg cs off (n * t.size)).toArray { w with drawn := d } := by
    intro l cs off hl hr b e fz cap hh P d
    have hm : (l.take n).length = n := by rw [List.length_take]; omega
    have hln := hr.length
    rw [hm] at hln
    have := run_firstCells_some (P := P) { w with drawn := d } t.size n ⟨b, off, none⟩ l.length cap (seg cs off (n * t.size)) hln (cells_row (w := { w with drawn := d }) hh)
    exact this
  have len : ∀ {l : List t.T} {cs : Array Value} {off : Nat}, n < l.length → RowAt g w t (l.take n) cs off → (seg cs off (n * t.size)).length = (l.take n).length * t.size ∧ RowOk g w t (l.take n) (seg cs off (n * t.size)).toArray := by
    intro l cs off hl hr
    have hm : (l.take n).length = n := by rw [List.length_take]; omega
    have hln := hr.length
    have hrr := hr.row
    rw [hm] at hln hrr
    rw [hm]
    exact ⟨hln, hrr⟩
  unfold newElems at h
  split at h
  · rename_i t' l
    split at h
    · rename_i ht
      subst ht
      cases h
      obtain ⟨A, cap, hv, _, hl⟩ := hx.one_inv.2 (.slot 0 0 0)
      simp only [List.cons.injEq, and_true] at hv
      subst hv
      rcases hl with rfl | ⟨b, off, cs, e, fz, rfl, hb, hh, hel⟩
      · exact absurd hn (Nat.not_lt_zero _)
      · have hr := tk (show RowAt g w t' l cs off from hel)
        exact ⟨_, cap, _, rfl, (len hn hr).1, (len hn hr).2, fin hn hr cap hh⟩
    · cases h
  · rename_i p f lo t' l
    split at h
    · rename_i ht
      subst ht
      cases h
      obtain ⟨A, cap, rfl, hc, hl⟩ := (hx.one_inv.2 (.slot 0 0 0)).1
      rcases hl with h0 | ⟨b, off, n', c, cs, e, rfl, hb, hf, hh, hs, hel⟩
      · have hn : n < l.length := hn
        omega
      · have hr := tk (show RowAt g w t' l cs (off + lo * t'.size) from hel)
        exact ⟨_, cap, _, rfl, (len hn hr).1, (len hn hr).2, fin hn hr cap hh⟩
    · cases h
  · cases h
    exact absurd hn (Nat.not_lt_zero _)
  · cases h
    exact absurd hn (Nat.not_lt_zero _)
  · cases h

theorem zeroCells_size (z : Array Value) (n : Nat) : (Builtin.zeroCells z n).size = n * z.size := by simp [Builtin.zeroCells]

theorem append_float (R : Rel C E g st tm w) {t : Ty} {l new : List t.T} {T T2 e : TypeId} {d2 : TypeId} {by' : Nat} {v vx : Value} {m : List Nat} {A' : Option Addr} {cap' : Nat} {news : List Value}
    (hu : C.P.underlying T = some (.slice e)) (hu2 : C.P.underlying T2 = some (.slice d2)) (ht : ty? C.P e = some t) (hby : bytesAt C.P e = some by')
    (hF : FRel g w (.own t l) v m) (F : Free g w (somes [m])) (hx : vx = .slice A' new.length cap') (hnl : news.length = new.length * t.size)
    (hnr : RowOk g w t new news.toArray) (hnxd : ∀ d, (Builtin.firstCells t.size new.length vx).run C.P { w with drawn := d } = .ok news.toArray { w with drawn := d })
    (h1 : (l.length + new.length) * by' ≤ 70368744177664) (h2 : l.length + new.length ≤ 70368744177664) (ty : TypeId) :
    ∃ v' w' m', (Builtin.append_ #[T, T2] ty #[v, vx]).run C.P w = .ok v' w' ∧ JGrows g w w' ∧ FRel g w' (.own t (l ++ new)) v' m' ∧ Free g w' (somes [m']) := by
  obtain ⟨i, z, hi, hz, hs, hf⟩ := ty?_inv ht
  have hib : i.bytes = by' := by simpa [bytesAt, hi] using hby
  have hti : ∀ w : World, (typeInfo e).run C.P w = .ok i w := fun w => by simp [typeInfo, hi]
  have hsz : ∀ w : World, (sizeOf e).run C.P w = .ok t.size w := fun w => run_sizeAt (ty?_size ht) w
  have hzz : ∀ w : World, (zeroValue e).run C.P w = .ok z w := fun w => run_zero hi hz
  obtain ⟨lo, A, cap, rfl, hc, hh⟩ := hF
  subst hx
  have hnx : (Builtin.firstCells t.size new.length (.slice A' new.length cap')).run C.P w = .ok news.toArray w := hnxd w.drawn
  by_cases hroom : l.length + new.length ≤ cap
  · -- there is room
    rcases hh with h0 | ⟨b, off, n, c, cs, e', rfl, rfl, _, hheap, hsize, hel⟩
    · have hl0 : l = [] := List.length_eq_zero_iff.1 (by omega)
      have hn0 : new = [] := List.length_eq_zero_iff.1 (by omega)
      subst hl0; subst hn0
      subst h0
      simp only [List.length_nil, Nat.zero_mul] at hnl
      have hnews : news = [] := List.length_eq_zero_iff.1 hnl
      subst hnews
      refine ⟨.slice A 0 0, w, [], ?_, ⟨fun _ _ => rfl, Nat.le_refl _, rfl, rfl, rfl⟩, ⟨0, A, 0, rfl, by simp, .inl rfl⟩, by simp [somes]; exact Free.nil⟩
      simp only [List.length_nil] at hnx
      simp only [Builtin.append_, List.length_nil]
      simp only [List.getElem?_toArray, List.getElem?_cons_zero, List.getElem?_cons_succ, Sem.run_bind, run_underlying' hu, run_underlying' hu2, Result.andThen_ok, hsz, Sem.run_pure, Bool.false_eq_true, if_false, Builtin.lenOf, Nat.add_zero, Nat.le_refl, if_true, Bool.not_false, hnx]
      cases A <;> simp [storeCells]
    · have hr : RowAt g w t l cs (off + lo * t.size) := hel
      have hjb := F.junk b (by simp [somes])
      have hfit : off + lo * t.size + l.length * t.size + news.length ≤ cs.size := by
        have : (l.length + new.length) * t.size ≤ cap * t.size := Nat.mul_le_mul_right _ hroom
        rw [Nat.add_mul] at this
        omega
      have hst := run_storeCells_at C.P b (off + lo * t.size + l.length * t.size) e' news 0 cs w hheap (by simpa using hfit) (RowOk.oneCell hnr hnl)
      simp only [Nat.add_zero] at hst
      have J : JGrows g w (w.setRow b (cs.toList.take (off + lo * t.size + l.length * t.size) ++ news ++ cs.toList.drop (off + lo * t.size + l.length * t.size + news.length)).toArray) :=
        ⟨fun n hn => setRow_other w b n _ (fun e => hn (e ▸ hjb)), by simp, rfl, rfl, rfl⟩
      refine ⟨.slice (some ⟨b, off + lo * t.size, none⟩) (l ++ new).length cap, _, [b], ?_, J, ?_, ⟨F.nodup, F.junk, fun k hk => Nat.lt_of_lt_of_le (F.size k hk) J.size⟩⟩
      · simp only [Builtin.append_]
        simp only [List.getElem?_toArray, List.getElem?_cons_zero, List.getElem?_cons_succ, Sem.run_bind, run_underlying' hu, run_underlying' hu2, Result.andThen_ok, hsz, Sem.run_pure, Bool.false_eq_true, if_false, Builtin.lenOf, hroom, if_true, Bool.not_false, hnx, Addr.add_eq, hst, List.length_append]
      · refine ⟨lo, _, cap, rfl, by simpa using hroom, .inr ⟨b, off, n, c, _, e', rfl, rfl, (fun h => by cases h), setRow_heap w b cs _ e' (0, 0) hheap, ?_, ?_⟩⟩
        · simp only [List.size_toArray, List.length_append, List.length_take, List.length_drop, Array.length_toList]; omega
        · intro k x hk
          by_cases hlt : k < l.length
          · rw [List.getElem?_append_left hlt] at hk
            have hm : (k + 1) * t.size ≤ l.length * t.size := Nat.mul_le_mul_right _ hlt
            rw [Nat.add_mul] at hm
            have hse : seg ((cs.toList.take (off + lo * t.size + l.length * t.size) ++ news ++ cs.toList.drop (off + lo * t.size + l.length * t.size + news.length)).toArray) (off + lo * t.size + k * t.size) t.size
                = seg cs (off + lo * t.size + k * t.size) t.size := by
              rw [List.append_assoc, seg_left (by simp only [List.length_take, Array.length_toList]; omega)]
              simp only [seg, List.drop_take, List.take_take]
              congr 1; omega
            rw [hse]
            exact ER.mono J.steps.imm (hr k x hk)
          · rw [List.getElem?_append_right (by omega)] at hk
            have hlt2 : k - l.length < new.length := (List.getElem?_eq_some_iff.1 hk).1
            have hm : (k - l.length + 1) * t.size ≤ new.length * t.size := Nat.mul_le_mul_right _ hlt2
            rw [Nat.add_mul] at hm
            have hk' : k * t.size = l.length * t.size + (k - l.length) * t.size := by rw [← Nat.add_mul]; congr 1; omega
            have hpl : (cs.toList.take (off + lo * t.size + l.length * t.size)).length = off + lo * t.size + l.length * t.size := by
              simp only [List.length_take, Array.length_toList]; omega
            have hse : seg ((cs.toList.take (off + lo * t.size + l.length * t.size) ++ news ++ cs.toList.drop (off + lo * t.size + l.length * t.size + news.length)).toArray) (off + lo * t.size + k * t.size) t.size
                = seg news.toArray ((k - l.length) * t.size) t.size := by
              rw [List.append_assoc, show off + lo * t.size + k * t.size = (cs.toList.take (off + lo * t.size + l.length * t.size)).length + (k - l.length) * t.size by omega, seg_right,
                seg_left (by omega)]
            rw [hse]
            exact ER.mono J.steps.imm (hnr _ x hk)
  · -- a new row
    have hlt : cap < l.length + new.length := by omega
    have hcapge : Builtin.nextslicecap (l.length + new.length) cap * i.bytes ≤ 2 ^ 48 := by
      have := Nat.mul_le_mul_right by' (nextslicecap_le hlt)
      rw [hib]
      have e : 2 * (l.length + new.length) * by' = 2 * ((l.length + new.length) * by') := by rw [Nat.mul_assoc]
      omega
    obtain ⟨old, hol, hor, hox⟩ : ∃ old : List Value, old.length = l.length * t.size ∧ RowOk g w t l old.toArray ∧
        ∀ d : Nat, (Builtin.firstCells t.size l.length (.slice A l.length cap)).run C.P { w with drawn := d } = .ok old.toArray { w with drawn := d } := by
      rcases hh with h0 | ⟨b, off, n, c, cs, e', rfl, rfl, _, hheap, hsize, hel⟩
      · have hl0 : l = [] := List.length_eq_zero_iff.1 (by omega)
        subst hl0
        refine ⟨[], by simp, fun i x hi => by simp at hi, fun d => ?_⟩
        cases A <;> simp [Builtin.firstCells, loadCells, loadCellsFrom]
      · have hr : RowAt g w t l cs (off + lo * t.size) := hel
        exact ⟨_, hr.length, hr.row, fun d => run_firstCells_some (P := C.P) { w with drawn := d } t.size l.length _ _ _ _ hr.length (cells_row (w := { w with drawn := d }) hheap)⟩
    have hq : (Question.appendCap (l.length + new.length) cap e).forced = false := rfl
    have hcut := Nat.le_add_right (l.length + new.length) (w.tape w.drawn (.appendCap (l.length + new.length) cap e) % (2 ^ 63 - (l.length + new.length)))
    obtain ⟨newCap, hnc, hge⟩ : ∃ n, (Question.appendCap (l.length + new.length) cap e).cut (w.tape w.drawn (.appendCap (l.length + new.length) cap e)) = n ∧ l.length + new.length ≤ n :=
      ⟨_, rfl, hcut⟩
    have hmax : ¬ (((l.length + new.length : Nat) : Int) > IntKind.i64.max) := by
      have : IntKind.i64.max = 9223372036854775807 := by decide
      rw [this]; omega
    obtain ⟨zz, hzz'⟩ : ∃ zz, zz = Builtin.zeroCells z.cells (newCap - (l.length + new.length)) := ⟨_, rfl⟩
    have hzs : z.cells.size = t.size := by
      have := (zero_ER (g := g) (w := w) hf).length
      simpa using this
    have hrow : RowOk g w t (l ++ new) (old ++ news ++ zz.toList).toArray := RowOk.more (hor.append hol hnr) (by simp only [List.length_append, hol, hnl, Nat.add_mul])
    have harr : old.toArray ++ news.toArray ++ zz = (old ++ news ++ zz.toList).toArray := by
      apply Array.ext'; simp
    have R' : Rel C E g st tm { w with drawn := w.drawn + 1 } := R.grow (Grows.drew w)
    have hrow' : RowOk g { w with drawn := w.drawn + 1 } t (l ++ new) (old ++ news ++ zz.toList).toArray := fun i x hi => ER.mono (w := w) (w' := { w with drawn := w.drawn + 1 }) (fun b hb => ⟨hb, rfl⟩) (hrow i x hi)
    obtain ⟨h9, h10⟩ := newRow_ok R' (e := e) (cap := newCap) hrow' (by simpa using hge) (by
      simp only [List.size_toArray, List.length_append, hol, hnl, hzz', Array.length_toList, zeroCells_size, hzs, ← Nat.add_mul]
      exact Nat.mul_le_mul_right _ (by omega))
    have G := (Grows.drew w).trans (Grows.push { w with drawn := w.drawn + 1 } (.cells (old ++ news ++ zz.toList).toArray e))
    refine ⟨.slice (some ⟨w.heap.size, 0, none⟩) (l ++ new).length newCap, _, [w.heap.size], ?_, R.j G, ?_, h10⟩
    rotate_left
    · obtain ⟨_, _, _, _, hv, hm, hfr, _⟩ := h9
      simp only [List.cons.injEq] at hv hm
      rw [← hv.1, ← hm.1] at hfr
      exact hfr
    · have hbig : ¬ (Builtin.nextslicecap (l.length + new.length) cap * i.bytes > 2 ^ 48) := by omega
      simp only [Builtin.append_]
      simp only [List.getElem?_toArray, List.getElem?_cons_zero, List.getElem?_cons_succ, Sem.run_bind, run_underlying' hu, run_underlying' hu2, Result.andThen_ok, hsz, Sem.run_pure, Bool.false_eq_true, if_false, Builtin.lenOf, if_neg hroom,
        Bool.not_false, hmax, false_and, hti, if_neg hbig, run_choose, hq, hnc, run_askRoom, hox, hnxd, hzz, newRow, run_newObj, ← hzz', harr, List.length_append, if_true]

end
end Go.Vai
