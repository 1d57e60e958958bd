import Derived.Test.YtpabholjoblkbaaVaiM
import Derived.Sort.Grow
/- VAI S: THE LIBRARY'S SORT, FROM THE KIT'S CONTRACT. -/
namespace Go.Vai
open Go

noncomputable def srt (l : List Int) : Option (List Int) :=
  cond (decide (0 < l.length)) (cond (decide (l.length ≤ 1000000000)) (some (l.mergeSort fun x y => decide (x ≤ y))) none) none

theorem sortSound {C : Ctx} {f : FuncId} (he : Enters C.P f)
    (hs : ∀ (blk off cap : Nat) (zs : List Int) (w : World), Go.Sort.Holds (Value.int .i64) w blk off zs.toArray → blk < w.heap.size → zs.length < 4611686018427387904 →
      Calls C.P f #[.slice (some ⟨blk, off, none⟩) zs.length cap] w fun e w' =>
        e = .returned (.tuple #[]) ∧ ∃ n os, w' = Go.Sort.grow (Go.Sort.putRow (Value.int .i64) (Go.Sort.ahead w n) blk off (zs.mergeSort fun x y => decide (x ≤ y)).toArray) os) :
    Sound C f (.fx [.io (.int .i64)] (List Int) (fun z => srt z.1) (fun b => (.tup [], [.own (.int .i64) b]))) := by
  refine ⟨he, ?_⟩
  intro g0 w bs vs args ms x hP hG
  obtain ⟨z, hz, hg⟩ := Option.bind_eq_some_iff.1 (show (xParse [.io (.int .i64)] 0 bs vs).bind (fun z => srt z.1) = some x from hG)
  obtain ⟨hvs, _⟩ := xParse_ok hz
  obtain ⟨l, ⟨⟩⟩ := z
  have hvs : vs = [⟨false, [.own (.int .i64) l]⟩] := hvs
  subst hvs
  have hl : 0 < l.length ∧ l.length ≤ 1000000000 ∧ x = l.mergeSort fun x y => decide (x ≤ y) := by
    have hg : srt l = some x := hg
    unfold srt at hg
    by_cases h1 : 0 < l.length
    · rw [decide_eq_true h1, cond_true] at hg
      by_cases h2 : l.length ≤ 1000000000
      · rw [decide_eq_true h2, cond_true] at hg; cases hg; exact ⟨h1, h2, rfl⟩
      · rw [decide_eq_false h2] at hg; cases hg
    · rw [decide_eq_false h1] at hg; cases hg
  obtain ⟨hl1, hl2, rfl⟩ := hl
  obtain ⟨v, vs', m, ms', rfl, rfl, hv, hr⟩ := hP.vals
  obtain ⟨rfl, rfl⟩ := hr
  obtain ⟨v', vs2, m1, ms2, e1, rfl, hv, hr⟩ := (show FsRel g0 w [.own (.int .i64) l] [v] m from hv)
  obtain ⟨rfl, rfl⟩ := hr
  cases e1
  obtain ⟨lo, A, cap, rfl, hcap, h⟩ := (show ∃ lo, HR g0 w (fun b _ _ _ => m1 = some b) false lo (.int .i64) l v from hv)
  obtain ⟨b, off, n, c, cs, e, rfl, rfl, _, hh, hsz, hx⟩ := h.resolve_left (by omega)
  have hts : (Ty.int .i64).size = 1 := rfl
  have hjunk := hP.free.junk b (by simp [somes])
  have hbs := hP.free.size b (by simp [somes])
  have hcell : ∀ j, j < l.length → cs[off + lo * (Ty.int .i64).size + j]? = some (.int .i64 (l.getD j 0)) := by
    intro j hj
    have := hx j (l.getD j 0) (by rw [List.getElem?_eq_getElem hj, List.getD_eq_getElem?_getD, List.getElem?_eq_getElem hj]; rfl)
    have this : seg cs (off + lo * (Ty.int .i64).size + j * (Ty.int .i64).size) (Ty.int .i64).size = [.int .i64 (l.getD j 0)] := this
    rw [hts] at this ⊢
    simp only [seg, Nat.mul_one] at this ⊢
    have h2 := congrArg (fun q => q[0]?) this
    simp only [List.getElem?_take, List.getElem?_drop, Nat.add_zero] at h2
    simpa using h2
  generalize hO : off + lo * (Ty.int .i64).size = o at *
  have hH : Go.Sort.Holds (Value.int .i64) w b o l.toArray := by
    intro j hj
    have hj : j < l.length := by simpa using hj
    refine ⟨?_, ?_⟩
    · simp only [World.cell?, hh]
      rw [if_neg (by simp), hcell j hj]
      simp [hj]
    · simp only [World.frozen?, hh]
      simp
  refine (hs b o cap l w hH hbs (by omega)).mono ?_
  rintro en w' ⟨rfl, dn, os, rfl⟩
  generalize hS : (l.mergeSort fun x y => decide (x ≤ y)) = srtd
  have hsl : srtd.length = l.length := by rw [← hS]; exact List.length_mergeSort _
  generalize hW : Go.Sort.grow (Go.Sort.putRow (Value.int .i64) (Go.Sort.ahead w dn) b o srtd.toArray) os = w'
  have hheap : w'.heap = (w.heap.modify b (Go.Sort.onCells (Go.Sort.putCells (Value.int .i64) o srtd.toArray))) ++ os := by rw [← hW]; rfl
  have hsize : w.heap.size ≤ w'.heap.size := by rw [hheap]; simp
  have hother : ∀ n, n < w.heap.size → n ≠ b → w'.heap[n]? = w.heap[n]? := by
    intro n hn hne
    rw [hheap, Array.getElem?_append, if_pos (by simpa using hn), Array.getElem?_modify, if_neg (fun e => hne e.symm)]
  have hb' : w'.heap[b]? = some (.cells (Go.Sort.putCells (Value.int .i64) o srtd.toArray cs) e (0, 0)) := by
    rw [hheap, Array.getElem?_append, if_pos (by simpa using hbs), Array.getElem?_modify, if_pos rfl, hh]; rfl
  refine ⟨.tuple #[], rfl, g0, [], [some b], ⟨#[], rfl, rfl, rfl⟩, ⟨_, [], some b, [], rfl, rfl, ⟨lo, some ⟨b, o, none⟩, cap, by rw [hsl], by rw [hsl]; exact hcap, .inr ⟨b, off, n, c, _, e, by rw [hO], rfl, fun h => (by cases h), hb', ?_, ?_⟩⟩, rfl, rfl⟩, ?_, fun _ h => (by simp [somes] at h), by rw [← hW]; rfl, by rw [← hW]; rfl, by rw [← hW]; rfl, hsize, ?_, fun _ _ h => h, ?_⟩
  · rw [hO]
    simp only [Go.Sort.putCells, Array.size_mapIdx]; exact hsz
  · intro i y hy
    have hi : i < srtd.length := (List.getElem?_eq_some_iff.1 hy).1
    show seg _ _ _ = [.int .i64 y]
    rw [hO, hts]
    have hlt : o + i < cs.size := by rw [hts] at hsz; omega
    have hc : (Go.Sort.putCells (Value.int .i64) o srtd.toArray cs)[o + i * 1]? = some (.int .i64 y) := by
      rw [Nat.mul_one]
      simp only [Go.Sort.putCells, Array.getElem?_mapIdx, Array.getElem?_eq_getElem hlt, Option.map_some]
      rw [if_pos ⟨by omega, by simp; omega⟩]
      have : o + i - o = i := by omega
      rw [this]
      have h3 : srtd.toArray[i]! = y := by
        rw [getElem!_pos _ i (by simpa using hi)]
        have := (List.getElem?_eq_some_iff.1 hy).2
        simpa using this
      rw [h3]
    apply List.ext_getElem?
    intro k
    simp only [seg, List.getElem?_take, List.getElem?_drop]
    by_cases hk : k < 1
    · have : k = 0 := by omega
      subst this
      rw [if_pos hk]
      simpa using hc
    · rw [if_neg hk, List.getElem?_eq_none (by simp; omega)]
  · refine ⟨by simp [somes], fun b' hb2 => ?_, fun b' hb2 => ?_⟩
    · have : b' = b := by simpa [somes] using hb2
      rw [this]; exact hjunk
    · have : b' = b := by simpa [somes] using hb2
      rw [this]; omega
  · intro k hk hkS
    exact hother k hk (fun e => hkS (by rw [e]; simp [somes]))
  · intro k hk
    by_cases hkw : k < w.heap.size
    · omega
    · have := hP.new k (by omega)
      rw [this] at hk; cases hk

/-- Two contracts of one function in one: each input by either. -/
theorem Sound.either {C : Ctx} {f : FuncId} {as : List AX} {β : Type} {enc : β → AV × List CV} {g1 g2 g : argsX as → Option β} (h1 : Sound C f (.fx as β g1 enc)) (h2 : Sound C f (.fx as β g2 enc))
    (hg : ∀ z y, g z = some y → g1 z = some y ∨ g2 z = some y) : Sound C f (.fx as β g enc) := by
  refine ⟨h1.1, fun g0 w bs vs args ms x hP hG => ?_⟩
  obtain ⟨z, hz, hx⟩ := Option.bind_eq_some_iff.1 (show (xParse as 0 bs vs).bind g = some x from hG)
  rcases hg z x hx with h | h
  · exact h1.2 g0 w bs vs args ms x hP (show (xParse as 0 bs vs).bind g1 = some x by rw [hz]; exact h)
  · exact h2.2 g0 w bs vs args ms x hP (show (xParse as 0 bs vs).bind g2 = some x by rw [hz]; exact h)

end Go.Vai
