/- A lemma text on a verified interpreter without memory (part VaiP). No conditions. -/
import Derived.Test.YtjfgddmngnkfdaaDoorVaiM
/- VAI P: CONTRACTS THAT COME FROM ELSEWHERE; CONTRACTS PUT TOGETHER. -/
namespace Go.Vai
open Go

/-- A contract that never promises anything. -/
theorem Sound.never {C : Ctx} {fid : FuncId} {f : Func} (hf : C.P.funcs[fid]? = some f) (hb : f.body.isSome = true) (hname : (f.name == "runtime.NumGoroutine") = false)
    {as : List AX} {β : Type} {enc : β → AV × List CV} : Sound C fid (.fx as β (fun _ => none) enc) := by
  have hb : f.body = some (codeOf f) := by
    unfold codeOf
    cases h : f.body with
    | none => rw [h] at hb; cases hb
    | some c => rfl
  refine SoundR.s rfl ⟨⟨f, codeOf f, hf, hb, hname⟩, fun g0 w bs vs args ms x hP hG => ?_⟩
  obtain ⟨z, _, hg⟩ := Option.bind_eq_some_iff.1 (show (xParse as 0 bs vs).bind (fun _ => none) = some x from hG)
  cases hg

theorem Enters.of {P : Program} {fid : FuncId} {f : Func} (hf : P.funcs[fid]? = some f) (hb : f.body.isSome = true) (hname : (f.name == "runtime.NumGoroutine") = false) : Enters P fid := by
  have hb : f.body = some (codeOf f) := by
    unfold codeOf
    cases h : f.body with
    | none => rw [h] at hb; cases hb
    | some c => rfl
  exact ⟨f, codeOf f, hf, hb, hname⟩

/-- Two contracts of one function in one: each input by either. -/
theorem Sound.or {C : Ctx} {f : FuncId} {as : List AX} {β : Type} {enc : β → AV × List CV} {g1 g2 g : argsX as → Option β} (h1 : Sound C f (.fx as β g1 enc)) (h2 : Sound C f (.fx as β g2 enc))
    (hg : ∀ z y, g z = some y → g1 z = some y ∨ g2 z = some y) : Sound C f (.fx as β g enc) := by
  have h1 := h1.r rfl
  have h2 := h2.r rfl
  refine SoundR.s rfl ⟨h1.1, fun g0 w bs vs args ms x hP hG => ?_⟩
  obtain ⟨z, hz, hx⟩ := Option.bind_eq_some_iff.1 (show (xParse as 0 bs vs).bind g = some x from hG)
  rcases hg z x hx with h | h
  · exact h1.2 g0 w bs vs args ms x hP (show (xParse as 0 bs vs).bind g1 = some x by rw [hz]; exact h)
  · exact h2.2 g0 w bs vs args ms x hP (show (xParse as 0 bs vs).bind g2 = some x by rw [hz]; exact h)

/-! ### functions of numbers and strings -/

def simple : List AX → Bool
  | [] => true
  | .val false (.int _) :: r => simple r
  | .val false .bool :: r => simple r
  | .val false .str :: r => simple r
  | _ => false

def rawArg : (a : AX) → a.T → Value
  | .val _ (.int k), z => .int k z
  | .val _ .bool, z => .bool z
  | .val _ .str, z => .string z
  | _, _ => undef

def rawArgs : (as : List AX) → argsX as → List Value
  | [], _ => []
  | a :: r, z => rawArg a z.1 :: rawArgs r z.2

theorem raw_ok {g : Gh} {w : World} : ∀ (as : List AX) (n : Nat) (z : argsX as) (args : List Value) (ms : List (List Nat)), simple as = true → FVs g w (xVals as n z) args ms → args = rawArgs as z ∧ somes ms = []
  | [], _, _, args, ms, _, h => by obtain ⟨rfl, rfl⟩ := h; exact ⟨rfl, rfl⟩
  | a :: r, n, z, args, ms, hs, h => by
    have one : ∀ (x : Value), FV g w ⟨false, [.v x]⟩ (args.headD undef) (ms.take 1) → args.headD undef = x := by
      intro x hx
      obtain ⟨v', vs', m, ms', e, _, hF, _⟩ := hx
      cases e
      exact hF.2 (.slot 0 0 0)
    have two : ∀ (x : Value), FVs g w (⟨false, [.v x]⟩ :: xVals r n z.2) args ms → simple r = true → args = x :: rawArgs r z.2 ∧ somes ms = [] := by
      intro x h hr
      obtain ⟨v, vs', m, ms', rfl, rfl, h1, h2⟩ := h
      obtain ⟨v', vs2, m1, ms1, e, rfl, hF, hn⟩ := h1
      cases e
      obtain ⟨_, rfl⟩ := hn
      obtain ⟨rfl, hF⟩ := hF
      obtain ⟨rfl, h3⟩ := raw_ok r n z.2 vs' ms' hr h2
      have e : v = x := hF (.slot 0 0 0)
      subst e
      exact ⟨rfl, by simpa [somes] using h3⟩
    match a, z, hs, h with
    | .val false (.int k), z, hs, h => exact two _ h hs
    | .val false .bool, z, hs, h => exact two _ h hs
    | .val false .str, z, hs, h => exact two _ h hs

/-- The tables lie in the world. -/
def TabsIn (C : Ctx) (w : World) : Prop := ∀ h cs, C.glob h = some cs → ∃ vs e fz, w.heap[h]? = some (.cells vs e fz) ∧ cs = vs.toList.map .v

/-- A result of numbers and strings. -/
def PlainRes (x : AV × List CV) (v : Value) : Prop := x.2 = [] ∧ ∀ g w, ∃ ms, somes ms = [] ∧ FAV g w x.1 v ms

theorem plain_one (v : Value) : PlainRes (.one ⟨false, [.v v]⟩, []) v :=
  ⟨rfl, fun _ _ => ⟨[[]], rfl, v, [], [], [], rfl, rfl, ⟨rfl, fun _ => rfl⟩, rfl, rfl⟩⟩

theorem plain_two (a b : Value) : PlainRes (.tup [⟨false, [.v a]⟩, ⟨false, [.v b]⟩], []) (.tuple #[a, b]) :=
  ⟨rfl, fun _ _ => ⟨[[], []], rfl, #[a, b], rfl, a, [b], [[]], [[]], rfl, rfl, ⟨a, [], [], [], rfl, rfl, ⟨rfl, fun _ => rfl⟩, rfl, rfl⟩,
    b, [], [[]], [], rfl, rfl, ⟨b, [], [], [], rfl, rfl, ⟨rfl, fun _ => rfl⟩, rfl, rfl⟩, rfl, rfl⟩⟩

theorem plain_three (a b c : Value) : PlainRes (.tup [⟨false, [.v a]⟩, ⟨false, [.v b]⟩, ⟨false, [.v c]⟩], []) (.tuple #[a, b, c]) :=
  ⟨rfl, fun _ _ => ⟨[[], [], []], rfl, #[a, b, c], rfl, a, [b, c], [[]], [[], []], rfl, rfl, ⟨a, [], [], [], rfl, rfl, ⟨rfl, fun _ => rfl⟩, rfl, rfl⟩,
    b, [c], [[]], [[]], rfl, rfl, ⟨b, [], [], [], rfl, rfl, ⟨rfl, fun _ => rfl⟩, rfl, rfl⟩,
    c, [], [[]], [], rfl, rfl, ⟨c, [], [], [], rfl, rfl, ⟨rfl, fun _ => rfl⟩, rfl, rfl⟩, rfl, rfl⟩⟩

theorem simple_any : ∀ (as : List AX), simple as = true → as.any AX.lentTo = false
  | [], _ => rfl
  | a :: r, hs => by
    have h2 : simple r = true ∧ a.lentTo = false := by
      match a, hs with
      | .val false (.int k), hs => exact ⟨hs, rfl⟩
      | .val false .bool, hs => exact ⟨hs, rfl⟩
      | .val false .str, hs => exact ⟨hs, rfl⟩
    rw [List.any_cons, h2.2, Bool.false_or]
    exact simple_any r h2.1

theorem simple_lent (as : List AX) (hs : simple as = true) : lentOf as = [] := by
  simp only [lentOf, simple_any as hs]

theorem Sound.simple {C : Ctx} {f : FuncId} {as : List AX} {β : Type} {enc : β → AV × List CV} {g : argsX as → Option β} (he : Enters C.P f) (hs : simple as = true)
    (H : ∀ z b, g z = some b → ∀ w, TabsIn C w → Calls C.P f (rawArgs as z).toArray w fun e w' => ∃ v, e = .returned v ∧ PlainRes (enc b) v ∧ Go.RowKit.Below w.heap.size w w') : Sound C f (.fx as β g enc) := by
  refine SoundR.s rfl ⟨he, fun g0 w bs vs args ms (x : β) hP hG => ?_⟩
  obtain ⟨z, hz, hx⟩ := Option.bind_eq_some_iff.1 (show (xParse as 0 bs vs).bind g = some x from hG)
  obtain ⟨hvs, _⟩ := xParse_ok hz
  obtain ⟨rfl, hms⟩ := raw_ok as 0 z args ms hs (hvs ▸ hP.vals)
  refine (H z x hx w (fun h cs hc => let ⟨vs, e, fz, h1, _, h3⟩ := hP.glob h cs hc; ⟨vs, e, fz, h1, h3⟩)).mono ?_
  rintro e w' ⟨v, rfl, ⟨h1, h2⟩, hw⟩
  let g' : Gh := ⟨fun n => if n < w.heap.size then g0.lab n else .junk, g0.bx⟩
  obtain ⟨ms', hm', hF⟩ := h2 g' w'
  have hl := simple_lent as hs
  have hp : ∀ (l : List Value), pickIO [] l = [] := by
    intro l
    induction l with
    | nil => rfl
    | cons a r ih => simpa [pickIO] using ih
  refine ⟨v, rfl, g', ms', [], hF, ?_, ?_, ?_, hw.os, hw.tape, hw.output, hw.size, fun n hn _ => hw.block n hn, ?_, ?_⟩
  · show FsRel g' w' (enc x).2 (pickIO (lentOf as) _) []
    rw [h1, hl, hp]; exact ⟨rfl, rfl⟩
  · rw [hm']; exact Free.nil
  · rw [hm']; intro b hb; cases hb
  · intro n hn h
    have : (if n < w.heap.size then g0.lab n else .junk) = Lab.imm := h
    rw [if_pos hn] at this; exact .inl this
  · intro n h
    by_cases hn : n < w.heap.size
    · exact Nat.lt_of_lt_of_le hn hw.size
    · have : (if n < w.heap.size then g0.lab n else .junk) = Lab.imm := h
      rw [if_neg hn] at this; cases this

/-- A function of a list of strings and a string. -/
theorem Sound.strs {C : Ctx} {f : FuncId} {β : Type} {enc : β → AV × List CV} {g : argsX [.val false (.slice .str), .val false .str] → Option β} (he : Enters C.P f)
    (H : ∀ xs sep b, g (xs, sep, ()) = some b → ∀ A cap w, TabsIn C w → xs.length ≤ cap → (xs = [] ∨ ∃ bk o, A = some ⟨bk, o, none⟩ ∧ bk < w.heap.size ∧ ∀ (j : Nat) x, xs[j]? = some x → w.cell? ⟨bk, o + j, none⟩ = some (.string x)) →
      Calls C.P f #[.slice A xs.length cap, .string sep] w fun e w' => ∃ v, e = .returned v ∧ PlainRes (enc b) v ∧ Go.RowKit.Below w.heap.size w w') : Sound C f (.fx [.val false (.slice .str), .val false .str] β g enc) := by
  refine SoundR.s rfl ⟨he, fun g0 w bs vs args ms (x : β) hP hG => ?_⟩
  obtain ⟨z, hz, hx⟩ := Option.bind_eq_some_iff.1 (show (xParse [.val false (.slice .str), .val false .str] 0 bs vs).bind g = some x from hG)
  obtain ⟨hvs, _⟩ := xParse_ok hz
  obtain ⟨xs, sep, ⟨⟩⟩ := z
  have hF : FVs g0 w [⟨false, [.sl .str xs]⟩, ⟨false, [.v (.string sep)]⟩] args ms := by
    have := hP.vals
    rw [hvs] at this
    exact this
  obtain ⟨v1, r1, m1, ms1, rfl, rfl, h1, h2⟩ := hF
  obtain ⟨v2, r2, m2, ms2, rfl, rfl, h3, h4⟩ := h2
  obtain ⟨rfl, rfl⟩ := h4
  obtain ⟨u1, t1, n1, k1, e1, rfl, h5, h6⟩ := h1
  obtain ⟨u2, t2, n2, k2, e2, rfl, h7, h8⟩ := h3
  cases e1
  cases e2
  obtain ⟨_, rfl⟩ := h6
  obtain ⟨_, rfl⟩ := h8
  obtain ⟨rfl, h5⟩ := h5
  obtain ⟨rfl, h7⟩ := h7
  have h7 : v2 = .string sep := h7 (.slot 0 0 0)
  subst h7
  obtain ⟨A, cap, hv, hc, hx1⟩ := h5 (.slot 0 0 0)
  simp only [List.cons.injEq, and_true] at hv
  subst hv
  refine (H xs sep x hx A cap w (fun h cs hc => let ⟨vs, e, fz, h1, _, h3⟩ := hP.glob h cs hc; ⟨vs, e, fz, h1, h3⟩) hc ?_).mono ?_
  · rcases hx1 with h | ⟨b, off, cs, e, fz, hA, _, hh, hel⟩
    · exact .inl h
    · refine .inr ⟨b, off, hA, (Array.getElem?_eq_some_iff.1 hh).1, fun j y hj => ?_⟩
      have hE : seg cs (off + j * 1) 1 = [.string y] := hel j y hj
      have h0 := congrArg (fun q => q[0]?) hE
      simp only [seg, List.getElem?_take, List.getElem?_drop, Nat.mul_one, Nat.add_zero] at h0
      simp only [World.cell?, hh]
      rw [if_neg (by simp)]
      simpa using h0
  · rintro e w' ⟨v, rfl, ⟨h1, h2⟩, hw⟩
    let g' : Gh := ⟨fun n => if n < w.heap.size then g0.lab n else .junk, g0.bx⟩
    obtain ⟨ms', hm', hF⟩ := h2 g' w'
    refine ⟨v, rfl, g', ms', [], hF, ?_, ?_, ?_, hw.os, hw.tape, hw.output, hw.size, fun n hn _ => hw.block n hn, ?_, ?_⟩
    · show FsRel g' w' (enc x).2 [] []
      rw [h1]; exact ⟨rfl, rfl⟩
    · rw [hm']; exact Free.nil
    · rw [hm']; intro b hb; cases hb
    · intro n hn h
      have : (if n < w.heap.size then g0.lab n else .junk) = Lab.imm := h
      rw [if_pos hn] at this; exact .inl this
    · intro n h
      by_cases hn : n < w.heap.size
      · exact Nat.lt_of_lt_of_le hn hw.size
      · have : (if n < w.heap.size then g0.lab n else .junk) = Lab.imm := h
        rw [if_neg hn] at this; cases this

end Go.Vai
