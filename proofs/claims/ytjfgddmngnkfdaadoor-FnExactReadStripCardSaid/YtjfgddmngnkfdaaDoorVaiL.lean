/- A lemma text on a verified interpreter without memory (part VaiL). No conditions. -/
import Derived.Test.YtjfgddmngnkfdaaDoorVaiT
/- VAI L: LOOPS, TYPED. -/
namespace Go.Vai
open Go

/-- The shape of a cell at a loop's head. -/
inductive CS where
  | int (k : IntKind) | bool | str
  | own (t : Ty) | sl (t : Ty)
  | view (p : Place) (f : Bool) (lo : Nat) (t : Ty)
  | ptr (b o : Nat) | gp (g o : Nat) | emp
  | fn (f : FuncId) (caps : List (Nat × Nat))
  | nilp
  | undef

@[reducible] def CS.T : CS → Type
  | .int _ => Int
  | .bool => Bool
  | .str => ByteArray
  | .own t => List t.T
  | .sl t => List t.T
  | .view _ _ _ t => List t.T
  | _ => Unit

def CS.cv : (s : CS) → s.T → CV
  | .int k, n => .v (.int k n)
  | .bool, b => .v (.bool b)
  | .str, s => .v (.string s)
  | .own t, l => .own t l
  | .sl t, l => .sl t l
  | .view p f lo t, l => .view p f lo t l
  | .ptr b o, _ => .ptr b o
  | .gp g o, _ => .gp g o
  | .emp, _ => .emp
  | .fn f caps, _ => .fn f caps
  | .nilp, _ => .v (.pointer none)
  | .undef, _ => .undef

def CS.parse : (s : CS) → CV → Option s.T
  | .int k, c => match c with
    | .v (.int k' n) => if k' = k then some n else none
    | _ => none
  | .bool, c => match c with
    | .v (.bool b) => some b
    | _ => none
  | .str, c => match c with
    | .v (.string s) => some s
    | _ => none
  | .own t, c => match c with
    | .own t' l => if h : t' = t then some (h ▸ l) else none
    | _ => none
  | .sl t, c => match c with
    | .sl t' l => if h : t' = t then some (h ▸ l) else none
    | _ => none
  | .view p f lo t, c => match c with
    | .view p' f' lo' t' l => if p' = p ∧ f' = f ∧ lo' = lo then (if h : t' = t then some (h ▸ l) else none) else none
    | _ => none
  | .ptr b o, c => match c with
    | .ptr b' o' => if b' = b ∧ o' = o then some () else none
    | _ => none
  | .gp b o, c => match c with
    | .gp b' o' => if b' = b ∧ o' = o then some () else none
    | _ => none
  | .emp, c => match c with
    | .emp => some ()
    | _ => none
  | .fn f caps, c => match c with
    | .fn f' caps' => if f' = f ∧ caps' = caps then some () else none
    | _ => none
  | .nilp, c => match c with
    | .v (.pointer none) => some ()
    | _ => none
  | .undef, c => match c with
    | .undef => some ()
    | _ => none

theorem CS.parse_cv {s : CS} {c : CV} {z : s.T} (h : s.parse c = some z) : c = s.cv z := by
  cases s with
  | int k =>
    simp only [CS.parse] at h
    split at h
    · split at h
      · rename_i e; cases h; subst e; rfl
      · cases h
    · cases h
  | bool =>
    simp only [CS.parse] at h
    split at h
    · cases h; rfl
    · cases h
  | str =>
    simp only [CS.parse] at h
    split at h
    · cases h; rfl
    · cases h
  | own t =>
    simp only [CS.parse] at h
    split at h
    · split at h
      · rename_i e; subst e; cases h; rfl
      · cases h
    · cases h
  | sl t =>
    simp only [CS.parse] at h
    split at h
    · split at h
      · rename_i e; subst e; cases h; rfl
      · cases h
    · cases h
  | view p f lo t =>
    simp only [CS.parse] at h
    split at h
    · split at h
      · rename_i e
        obtain ⟨rfl, rfl, rfl⟩ := e
        split at h
        · rename_i e; subst e; cases h; rfl
        · cases h
      · cases h
    · cases h
  | ptr b o =>
    simp only [CS.parse] at h
    split at h
    · split at h
      · rename_i e; obtain ⟨rfl, rfl⟩ := e; rfl
      · cases h
    · cases h
  | gp b o =>
    simp only [CS.parse] at h
    split at h
    · split at h
      · rename_i e; obtain ⟨rfl, rfl⟩ := e; rfl
      · cases h
    · cases h
  | emp =>
    simp only [CS.parse] at h
    split at h
    · rfl
    · cases h
  | fn f caps =>
    simp only [CS.parse] at h
    split at h
    · split at h
      · rename_i e; obtain ⟨rfl, rfl⟩ := e; rfl
      · cases h
    · cases h
  | nilp =>
    simp only [CS.parse] at h
    split at h
    · rfl
    · cases h
  | undef =>
    simp only [CS.parse] at h
    split at h
    · rfl
    · cases h

/-- Rows of cells. -/
@[reducible] def csT : List CS → Type
  | [] => Unit
  | s :: r => s.T × csT r

def csCv : (s : List CS) → csT s → List CV
  | [], _ => []
  | s :: r, z => s.cv z.1 :: csCv r z.2

def csParse : (s : List CS) → List CV → Option (csT s)
  | [], cs => match cs with
    | [] => some ()
    | _ => none
  | s :: r, cs => match cs with
    | c :: cs => (s.parse c).bind fun x => (csParse r cs).bind fun y => some (x, y)
    | [] => none

theorem csParse_cv : ∀ {s : List CS} {cs : List CV} {z : csT s}, csParse s cs = some z → cs = csCv s z
  | [], cs, z, h => by
    simp only [csParse] at h
    split at h
    · rfl
    · cases h
  | s :: r, cs, z, h => by
    simp only [csParse] at h
    split at h
    · rename_i c cs
      simp only [Option.bind_eq_some_iff] at h
      obtain ⟨x, hx, y, hy, hz⟩ := h
      cases hz
      simp only [csCv]
      rw [← CS.parse_cv hx, ← csParse_cv hy]
    · cases h

/-- What lives at a loop's head: slots (one value each), variables, what was lent. -/
structure LS where
  slots : List (Bool × List CS)
  boxes : List (Bool × List CS)
  io : List CS

@[reducible] def rowsT : List (Bool × List CS) → Type
  | [] => Unit
  | s :: r => csT s.2 × rowsT r

def slotsAV : (s : List (Bool × List CS)) → rowsT s → List AV
  | [], _ => []
  | s :: r, z => .one ⟨s.1, csCv s.2 z.1⟩ :: slotsAV r z.2

def boxesAV : (s : List (Bool × List CS)) → rowsT s → List Box
  | [], _ => []
  | s :: r, z => some (s.1, csCv s.2 z.1) :: boxesAV r z.2

def slotsParse : (s : List (Bool × List CS)) → List AV → Option (rowsT s)
  | [], l => match l with
    | [] => some ()
    | _ => none
  | s :: r, l => match l with
    | .one v :: l => if v.agg = s.1 then (csParse s.2 v.cs).bind fun x => (slotsParse r l).bind fun y => some (x, y) else none
    | _ => none

def boxesParse : (s : List (Bool × List CS)) → List Box → Option (rowsT s)
  | [], l => match l with
    | [] => some ()
    | _ => none
  | s :: r, l => match l with
    | some v :: l => if v.1 = s.1 then (csParse s.2 v.2).bind fun x => (boxesParse r l).bind fun y => some (x, y) else none
    | _ => none

theorem slotsParse_ok : ∀ {s : List (Bool × List CS)} {l : List AV} {z : rowsT s}, slotsParse s l = some z → l = slotsAV s z
  | [], l, z, h => by
    simp only [slotsParse] at h
    split at h
    · rfl
    · cases h
  | s :: r, l, z, h => by
    simp only [slotsParse] at h
    split at h
    · rename_i v l
      split at h
      · rename_i hg
        simp only [Option.bind_eq_some_iff] at h
        obtain ⟨x, hx, y, hy, hz⟩ := h
        cases hz
        simp only [slotsAV]
        rw [← csParse_cv hx, ← slotsParse_ok hy, ← hg]
      · cases h
    · cases h

theorem boxesParse_ok : ∀ {s : List (Bool × List CS)} {l : List Box} {z : rowsT s}, boxesParse s l = some z → l = boxesAV s z
  | [], l, z, h => by
    simp only [boxesParse] at h
    split at h
    · rfl
    · cases h
  | s :: r, l, z, h => by
    simp only [boxesParse] at h
    split at h
    · rename_i v l
      split at h
      · rename_i hg
        simp only [Option.bind_eq_some_iff] at h
        obtain ⟨x, hx, y, hy, hz⟩ := h
        cases hz
        simp only [boxesAV]
        rw [← csParse_cv hx, ← boxesParse_ok hy, ← hg]
      · cases h
    · cases h

@[reducible] def LS.T (s : LS) : Type := rowsT s.slots × rowsT s.boxes × csT s.io
def LS.enc (s : LS) (z : s.T) : Live := (slotsAV s.slots z.1, boxesAV s.boxes z.2.1, csCv s.io z.2.2)
def LS.parse (s : LS) (x : Live) : Option s.T :=
  (slotsParse s.slots x.1).bind fun a => (boxesParse s.boxes x.2.1).bind fun b => (csParse s.io x.2.2).bind fun c => some (a, b, c)

theorem LS.parse_ok {s : LS} {x : Live} {z : s.T} (h : s.parse x = some z) : x = s.enc z := by
  obtain ⟨x1, x2, x3⟩ := x
  simp only [LS.parse, Option.bind_eq_some_iff] at h
  obtain ⟨a, ha, b, hb, c, hc, hz⟩ := h
  cases hz
  simp only [LS.enc]
  rw [← slotsParse_ok ha, ← boxesParse_ok hb, ← csParse_cv hc]

/-! ### rounds -/

/-- So many rounds. -/
def iter {α β : Type} (g : α → Option (α ⊕ β)) : Nat → α → Option β
  | 0, _ => none
  | n + 1, z => (g z).bind fun r => match r with
    | .inl z => iter g n z
    | .inr x => some x

/-- As many rounds as it takes. -/
noncomputable def whileO {α β : Type} (g : α → Option (α ⊕ β)) (z : α) : Option β :=
  open Classical in if h : ∃ n, (iter g n z).isSome = true then iter g (Classical.choose h) z else none

theorem iter_mono {α β : Type} {g : α → Option (α ⊕ β)} {x : β} : ∀ {n : Nat} {z : α}, iter g n z = some x → ∀ m, n ≤ m → iter g m z = some x
  | 0, _, h, _, _ => by cases h
  | n + 1, z, h, 0, hm => by omega
  | n + 1, z, h, m + 1, hm => by
    simp only [iter] at h ⊢
    cases hg : g z with
    | none => rw [hg] at h; cases h
    | some r =>
      rw [hg] at h
      simp only [Option.bind_some] at h ⊢
      cases r with
      | inl z' => exact iter_mono h m (by omega)
      | inr y => exact h

theorem iter_unique {α β : Type} {g : α → Option (α ⊕ β)} {n m : Nat} {z : α} {x y : β} (h : iter g n z = some x) (h' : iter g m z = some y) : x = y := by
  have h1 := iter_mono h (max n m) (Nat.le_max_left ..)
  have h2 := iter_mono h' (max n m) (Nat.le_max_right ..)
  rw [h1] at h2; cases h2; rfl

theorem whileO_of {α β : Type} {g : α → Option (α ⊕ β)} {n : Nat} {z : α} {x : β} (h : iter g n z = some x) : whileO g z = some x := by
  have hex : ∃ n, (iter g n z).isSome = true := ⟨n, by rw [h]; rfl⟩
  unfold whileO
  rw [dif_pos hex]
  have := Classical.choose_spec hex
  cases hc : iter g (Classical.choose hex) z with
  | none => rw [hc] at this; cases this
  | some y => rw [iter_unique h hc]

theorem whileO_some {α β : Type} {g : α → Option (α ⊕ β)} {z : α} {x : β} (h : whileO g z = some x) : ∃ n, iter g n z = some x := by
  unfold whileO at h
  split at h
  · exact ⟨_, h⟩
  · cases h

/-- One round more. -/
theorem whileO_step {α β : Type} {g : α → Option (α ⊕ β)} {z z' : α} (h : g z = some (.inl z')) : whileO g z = whileO g z' := by
  cases hw : whileO g z' with
  | some x =>
    obtain ⟨n, hn⟩ := whileO_some hw
    exact whileO_of (n := n + 1) (by simp only [iter, h, Option.bind_some]; exact hn)
  | none =>
    cases hz : whileO g z with
    | none => rfl
    | some x =>
      obtain ⟨n, hn⟩ := whileO_some hz
      cases n with
      | zero => cases hn
      | succ n =>
        simp only [iter, h, Option.bind_some] at hn
        rw [whileO_of hn] at hw; cases hw

theorem whileO_exit {α β : Type} {g : α → Option (α ⊕ β)} {z : α} {x : β} (h : g z = some (.inr x)) : whileO g z = some x :=
  whileO_of (n := 1) (by simp only [iter, h, Option.bind_some])

/-- Where a loop leads, and what lives there. -/
@[reducible] def exT : List (Ex × LS) → Type
  | [] => Empty
  | x :: r => x.2.T ⊕ exT r

def exK {R : Type} (k : Ex → Live → Option R) : (xs : List (Ex × LS)) → exT xs → Option R
  | [], z => nomatch z
  | x :: r, z => match z with
    | .inl z => k x.1 (x.2.enc z)
    | .inr z => exK k r z

/-- A loop, from its one round. -/
theorem loop_of_step {d : Dim} {lh : LoopHint} {R : Type} {body : St → (Ex → St → Option R) → Option R} {s : LS} {xs : List (Ex × LS)} {g : s.T → Option (s.T ⊕ exT xs)}
    (hstep : ∀ n z k, loopN d lh body (n + 1) (s.enc z) k = (g z).bind fun r => match r with
      | .inl z => loopN d lh body n (s.enc z) k
      | .inr x => exK k xs x) (k : Ex → Live → Option R) : ∀ n z, loopN d lh body n (s.enc z) k = (iter g n z).bind (exK k xs)
  | 0, z => rfl
  | n + 1, z => by
    rw [hstep]
    simp only [iter]
    cases g z with
    | none => rfl
    | some r =>
      cases r with
      | inl z' => exact loop_of_step hstep k n z'
      | inr x => rfl

/-- What is told of a loop to what comes behind it. -/
noncomputable def loopS {R : Type} (s : LS) (xs : List (Ex × LS)) (g : s.T → Option (s.T ⊕ exT xs)) (x : Live) (k : Ex → Live → Option R) : Option R :=
  (s.parse x).bind fun z => (whileO g z).bind (exK k xs)

theorem loopS_ok {d : Dim} {lh : LoopHint} {R : Type} {body : St → (Ex → St → Option R) → Option R} {s : LS} {xs : List (Ex × LS)} {g : s.T → Option (s.T ⊕ exT xs)}
    (hstep : ∀ n z k, loopN d lh body (n + 1) (s.enc z) k = (g z).bind fun r => match r with
      | .inl z => loopN d lh body n (s.enc z) k
      | .inr x => exK k xs x) : ∀ x k r, loopS s xs g x k = some r → ∃ N, loopN d lh body N x k = some r := by
  intro x k r h
  simp only [loopS, Option.bind_eq_some_iff] at h
  obtain ⟨z, hz, y, hy, hr⟩ := h
  obtain ⟨n, hn⟩ := whileO_some hy
  refine ⟨n, ?_⟩
  rw [LS.parse_ok hz, loop_of_step hstep k n z, hn]
  exact hr

end Go.Vai
