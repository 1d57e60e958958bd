/- A lemma text on a verified interpreter without memory (part VaiT). No conditions. -/
import Derived.Test.YtjfgddmngnkfdaaDoorVaiR
/- VAI T: CONTRACTS, TYPED; TABLES OF CONTRACTS. -/
namespace Go.Vai
open Go

/-- Only a slice that never changes, or a plain value. -/
def Ty.parse : (t : Ty) → List CV → Option t.T
  | .int k, cs => match cs with
    | [.v (.int k' n)] => if k' = k then some n else none
    | _ => none
  | .bool, cs => match cs with
    | [.v (.bool b)] => some b
    | _ => none
  | .str, cs => match cs with
    | [.v (.string s)] => some s
    | _ => none
  | .unit, cs => match cs with
    | [] => some ()
    | _ => none
  | .pair a b, cs => (a.parse (cs.take a.size)).bind fun x => (b.parse (cs.drop a.size)).bind fun y => some (x, y)
  | .slice t, cs => match cs with
    | [.sl t' l] => if h : t' = t then some (h ▸ l) else none
    | _ => none

theorem Ty.parse_cells : ∀ {t : Ty} {cs : List CV} {z : t.T}, t.parse cs = some z → cs = t.cells z
  | .int k, cs, z, h => by
    simp only [Ty.parse] at h
    split at h
    · split at h
      · rename_i e; cases h; subst e; rfl
      · cases h
    · cases h
  | .bool, cs, z, h => by
    simp only [Ty.parse] at h
    split at h
    · cases h; rfl
    · cases h
  | .str, cs, z, h => by
    simp only [Ty.parse] at h
    split at h
    · cases h; rfl
    · cases h
  | .unit, cs, z, h => by
    simp only [Ty.parse] at h
    split at h
    · rfl
    · cases h
  | .pair a b, cs, z, h => by
    simp only [Ty.parse, Option.bind_eq_some_iff] at h
    obtain ⟨x, hx, y, hy, hz⟩ := h
    cases hz
    simp only [Ty.cells]
    rw [← Ty.parse_cells hx, ← Ty.parse_cells hy, List.take_append_drop]
  | .slice t, cs, z, h => by
    simp only [Ty.parse] at h
    split at h
    · split at h
      · rename_i e; subst e; cases h; rfl
      · cases h
    · cases h

/-- A parameter: a value; a pointer to a variable that is read. -/
inductive AT where
  | val (agg : Bool) (t : Ty)
  | ptr (t : Ty)
  | fn

def AT.T : AT → Type
  | .val _ t => t.T
  | .ptr t => t.T
  | .fn => FuncId

def ArgsT : List AT → Type
  | [] => Unit
  | a :: r => a.T × ArgsT r

def argVals : (as : List AT) → Nat → ArgsT as → List Val
  | [], _, _ => []
  | .val g t :: r, n, z => ⟨g, t.cells z.1⟩ :: argVals r n z.2
  | .ptr _ :: r, n, z => ⟨false, [.ptr n 0]⟩ :: argVals r (n + 1) z.2
  | .fn :: r, n, z => ⟨false, [.fn z.1 []]⟩ :: argVals r n z.2

def argBoxes : (as : List AT) → ArgsT as → List (List CV)
  | [], _ => []
  | .val _ _ :: r, z => argBoxes r z.2
  | .ptr t :: r, z => t.cells z.1 :: argBoxes r z.2
  | .fn :: r, z => argBoxes r z.2

def parseArgs : (as : List AT) → Nat → List (List CV) → List Val → Option (ArgsT as)
  | [], _, bs, vs => match bs, vs with
    | [], [] => some ()
    | _, _ => none
  | .val g t :: r, n, bs, vs => match vs with
    | v :: vs => if v.agg = g then (t.parse v.cs).bind fun x => (parseArgs r n bs vs).bind fun y => some (x, y) else none
    | _ => none
  | .ptr t :: r, n, bs, vs => match bs, vs with
    | b :: bs, ⟨false, [.ptr k 0]⟩ :: vs => if k = n then (t.parse b).bind fun x => (parseArgs r (n + 1) bs vs).bind fun y => some (x, y) else none
    | _, _ => none
  | .fn :: r, n, bs, vs => match vs with
    | ⟨false, [.fn f []]⟩ :: vs => (parseArgs r n bs vs).bind fun y => some (f, y)
    | _ => none

theorem parseArgs_ok : ∀ {as : List AT} {n : Nat} {bs : List (List CV)} {vs : List Val} {z : ArgsT as}, parseArgs as n bs vs = some z → vs = argVals as n z ∧ bs = argBoxes as z
  | [], n, bs, vs, z, h => by
    simp only [parseArgs] at h
    split at h
    · exact ⟨rfl, rfl⟩
    · cases h
  | .val g t :: r, n, bs, vs, z, h => by
    simp only [parseArgs] at h
    split at h
    · rename_i v vs
      split at h
      · rename_i hg
        simp only [Option.bind_eq_some_iff] at h
        obtain ⟨x, hx, y, hy, hz⟩ := h
        cases hz
        obtain ⟨h1, h2⟩ := parseArgs_ok hy
        refine ⟨?_, h2⟩
        simp only [argVals]
        rw [← Ty.parse_cells hx, ← h1, ← hg]
      · cases h
    · cases h
  | .ptr t :: r, n, bs, vs, z, h => by
    simp only [parseArgs] at h
    split at h
    · rename_i b bs k vs
      split at h
      · rename_i hk
        simp only [Option.bind_eq_some_iff] at h
        obtain ⟨x, hx, y, hy, hz⟩ := h
        cases hz
        obtain ⟨h1, h2⟩ := parseArgs_ok hy
        refine ⟨?_, ?_⟩
        · simp only [argVals]; rw [← h1, hk]
        · simp only [argBoxes]; rw [← Ty.parse_cells hx, ← h2]
      · cases h
    · cases h
  | .fn :: r, n, bs, vs, z, h => by
    simp only [parseArgs] at h
    split at h
    · rename_i f vs
      simp only [Option.bind_eq_some_iff] at h
      obtain ⟨y, hy, hz⟩ := h
      cases hz
      obtain ⟨h1, h2⟩ := parseArgs_ok hy
      refine ⟨?_, h2⟩
      simp only [argVals]; rw [← h1]
    · cases h

def nPtr : List AT → Nat
  | [] => 0
  | .val _ _ :: r => nPtr r
  | .ptr _ :: r => nPtr r + 1
  | .fn :: r => nPtr r

theorem argBoxes_length : ∀ (as : List AT) (z : ArgsT as), (argBoxes as z).length = nPtr as
  | [], _ => rfl
  | .val _ _ :: r, z => argBoxes_length r z.2
  | .ptr _ :: r, z => by simp [argBoxes, nPtr, argBoxes_length r z.2]
  | .fn :: r, z => argBoxes_length r z.2

/-- A contract with typed arguments. -/
def Contract.fn (as : List AT) (β : Type) (g : ArgsT as → Option β) (enc : β → AV) : Contract :=
  { io := [], β := β, G := fun bs vs => (parseArgs as 0 bs vs).bind g, enc := fun b => (enc b, []) }

def look (f : FuncId) : List (FuncId × Contract) → Option Contract
  | [] => none
  | p :: r => match Nat.beq p.1 f with
    | true => some p.2
    | false => look f r

def tab (C : Ctx) (t : List (FuncId × Contract)) (e : Bool := false) : Ctx := { P := C.P, ρ := fun f => look f t, glob := C.glob, opt := e }

theorem Passed.ctx {C C' : Ctx} (hg : C.glob = C'.glob) {g0 : Gh} {w : World} {bs : List (List CV)} {vs : List Val} {args : List Value} {ms : List (List Nat)} (h : Passed C g0 w bs vs args ms) : Passed C' g0 w bs vs args ms :=
  ⟨h.vals, h.free, h.boxes, h.bxs, h.old, h.new, fun k cs hk => h.glob k cs (by rw [hg]; exact hk)⟩

theorem PassedB.ctx {C C' : Ctx} (hg : C.glob = C'.glob) {g0 : Gh} {w : World} {bs : List (List CV)} {vs : List Val} {args : List Value} {bns : Bns} (h : PassedB C g0 w bs vs args bns) : PassedB C' g0 w bs vs args bns :=
  ⟨h.vals, h.free, h.len, h.boxes, h.bxs, h.old, h.new, fun k cs hk => h.glob k cs (by rw [hg]; exact hk)⟩

theorem Sound.ctx {C C' : Ctx} (hP : C.P = C'.P) (hg : C.glob = C'.glob) {f : FuncId} {c : Contract} (h : Sound C f c) : Sound C' f c := by
  unfold Sound at h ⊢
  split at h
  · rename_i hc
    exact ⟨hP ▸ h.1, fun g0 w bs vs args ms x hp hG => hP ▸ h.2 g0 w bs vs args ms x (hp.ctx hg.symm) hG⟩
  · rename_i hc
    exact ⟨hP ▸ h.1, fun g0 w bs vs args ms x hp hG => hP ▸ h.2 g0 w bs vs args ms x (hp.ctx hg.symm) hG⟩

/-- All contracts of a table hold. -/
def AllSound (C : Ctx) (t : List (FuncId × Contract)) : Prop := ∀ p, p ∈ t → Sound C p.1 p.2

theorem AllSound.nil {C : Ctx} : AllSound C [] := fun _ h => (List.not_mem_nil h).elim

theorem AllSound.cons {C : Ctx} {f : FuncId} {c : Contract} {t : List (FuncId × Contract)} (h : Sound C f c) (h' : AllSound C t) : AllSound C ((f, c) :: t) := by
  intro p hp
  rcases List.mem_cons.1 hp with rfl | hp
  · exact h
  · exact h' p hp

theorem AllSound.look {C : Ctx} : ∀ {t : List (FuncId × Contract)}, AllSound C t → ∀ f c, Vai.look f t = some c → Sound C f c
  | [], _, f, c, h => by cases h
  | p :: r, ha, f, c, h => by
    simp only [Vai.look] at h
    split at h
    · rename_i hb
      cases h
      have := Nat.eq_of_beq_eq_true hb
      subst this
      exact ha p (by simp)
    · exact AllSound.look (fun q hq => ha q (by simp [hq])) f c h

theorem AllSound.rho {C : Ctx} {t : List (FuncId × Contract)} {e : Bool} (h : AllSound C t) : ∀ f c, (tab C t e).ρ f = some c → Sound (tab C t e) f c :=
  fun f c hc => Sound.ctx (C := C) (C' := tab C t e) rfl rfl (h.look f c hc)

noncomputable def codeOf (f : Func) : Code :=
  match f.body with
  | some c => c
  | none => .skip

/-- A function's contract, from what the interpreter says at typed arguments. -/
theorem Sound.fn {C : Ctx} {t : List (FuncId × Contract)} (hT : AllSound C t) (hm : C.P.follows .mixedOrders = true) {fid : FuncId} {f : Func} (hf : C.P.funcs[fid]? = some f) (hb : f.body.isSome = true)
    (hname : (f.name == "runtime.NumGoroutine") = false) {as : List AT} {β : Type} {g : ArgsT as → Option β} {enc : β → AV} (h : Hints (AV × List CV)) (fuel : Nat)
    (hH : HintsOk (tab C t) ⟨f.ntmps, f.ntmps + nPtr as⟩ h fuel (loops (codeOf f)))
    (hJ : JoinsOk (tab C t) ⟨f.ntmps, f.ntmps + nPtr as⟩ h fuel (joins (codeOf f)))
    (hrun : ∀ z x, g z = some x → runF (tab C t) h fuel f [] (argBoxes as z) (argVals as 0 z) (fun a cs => some (a, cs)) = some (enc x, [])) : Sound C fid (Contract.fn as β g enc) := by
  have hb : f.body = some (codeOf f) := by
    unfold codeOf
    cases h : f.body with
    | none => rw [h] at hb; cases hb
    | some c => rfl
  refine Sound.ctx (C := tab C t) (C' := C) rfl rfl (Sound.of_run (C := tab C t) hf hb hname rfl hm hT.rho ?_)
  intro bs vs (x : β) hG
  have hG : (parseArgs as 0 bs vs).bind g = some x := hG
  rw [Option.bind_eq_some_iff] at hG
  obtain ⟨z, hz, hx⟩ := hG
  obtain ⟨rfl, rfl⟩ := parseArgs_ok hz
  exact ⟨h, fuel, by rw [argBoxes_length]; exact hH, by rw [argBoxes_length]; exact hJ, hrun z x hx⟩

def noHints {R : Type} : Hints R := ⟨fun _ => ⟨[], [], [], []⟩, fun _ => none⟩

theorem noHints_ok {C : Ctx} {d : Dim} {R : Type} {fuel : Nat} {ls : List Code} : HintsOk C d (noHints (R := R)) fuel ls := fun _ _ s hs => by cases hs

theorem noHints_joins {C : Ctx} {d : Dim} {R : Type} {fuel : Nat} {ls : List Code} : JoinsOk C d (noHints (R := R)) fuel ls := fun _ _ s hs => by cases hs

theorem JoinsOk.free {C : Ctx} {d : Dim} {R : Type} {h : Hints R} {fuel : Nat} {ls : List Code} (hl : (ls.all fun y => (h.sum (jkey y)).isNone) = true) : JoinsOk C d h fuel ls := by
  intro y hy s hs
  have := List.all_eq_true.1 hl y hy
  rw [hs] at this
  cases this

/-- Only the rests that are told by a name. -/
theorem JoinsOk.pick {C : Ctx} {d : Dim} {R : Type} {h : Hints R} {fuel : Nat} {ls ls' : List Code} (hl : (ls.filter fun y => (h.sum (jkey y)).isSome) = ls') (h2 : JoinsOk C d h fuel ls') : JoinsOk C d h fuel ls := by
  intro y hy s hs x k r hr
  refine h2 y ?_ s hs x k r hr
  rw [← hl, List.mem_filter]
  exact ⟨hy, by rw [hs]; rfl⟩

theorem JoinsOk.nil {C : Ctx} {d : Dim} {R : Type} {h : Hints R} {fuel : Nat} : JoinsOk C d h fuel [] := fun _ hb => (List.not_mem_nil hb).elim

theorem JoinsOk.cons {C : Ctx} {d : Dim} {R : Type} {h : Hints R} {fuel : Nat} {b : Code} {ls : List Code} {n : Nat} {lh : LoopHint} {S : Live → (Ex → Live → Option R) → Option R} (hk : jkey b = n) (hlh : h.loop n = lh) (hs : h.sum n = some S)
    (hl : ∀ x k r, S x k = some r → den C d h fuel b (d.back lh.s lh.b x) (fun e st => k e (st.live lh.s' lh.b')) = some r) (h2 : JoinsOk C d h fuel ls) : JoinsOk C d h fuel (b :: ls) := by
  intro y hb s hs' x k r hr
  rcases List.mem_cons.1 hb with rfl | hb
  · subst hk
    rw [hs] at hs'
    cases hs'
    rw [hlh]
    exact hl x k r hr
  · exact h2 y hb s hs' x k r hr

theorem HintsOk.nil {C : Ctx} {d : Dim} {R : Type} {h : Hints R} {fuel : Nat} : HintsOk C d h fuel [] := fun _ hb => (List.not_mem_nil hb).elim

/-- What is known of one loop, and of the others. -/
theorem HintsOk.cons {C : Ctx} {d : Dim} {R : Type} {h : Hints R} {fuel : Nat} {b : Code} {ls : List Code} {n : Nat} {lh : LoopHint} {S : Live → (Ex → Live → Option R) → Option R} (hk : key b = n) (hlh : h.loop n = lh) (hs : h.sum n = some S)
    (hl : ∀ x k r, S x k = some r → ∃ N, loopN d lh (den C d h fuel b) N x k = some r) (h2 : HintsOk C d h fuel ls) : HintsOk C d h fuel (b :: ls) := by
  intro body hb s hs' x k r hr
  rcases List.mem_cons.1 hb with rfl | hb
  · subst hk
    rw [hs] at hs'
    cases hs'
    rw [hlh]
    exact hl x k r hr
  · exact h2 body hb s hs' x k r hr

end Go.Vai
