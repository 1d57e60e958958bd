/- A lemma text on a verified interpreter without memory (part Vai1). No conditions. -/
import Derived.Calls
import Derived.LoopN
import Derived.Orders
import Derived.Below
/- VAI 1: AN INTERPRETER WITHOUT MEMORY: the definitions. -/
namespace Go.Vai
open Go

/-- The kinds of elements of slices. -/
inductive Ty where
  | int (k : IntKind) | bool | str | unit | pair (a b : Ty) | slice (t : Ty)
  deriving DecidableEq

@[reducible] def Ty.T : Ty → Type
  | .int _ => Int
  | .bool => Bool
  | .str => ByteArray
  | .unit => Unit
  | .pair a b => a.T × b.T
  | .slice t => List t.T

def Ty.size : Ty → Nat
  | .unit => 0
  | .pair a b => a.size + b.size
  | _ => 1

/-- Where a slice of the call's own lies. -/
inductive Place where
  | slot (i k j : Nat)
  | cell (b j : Nat)
  | arg (j : Nat)
  deriving DecidableEq

/-- What one cell holds, told without memory. -/
inductive CV where
  | undef
  | v (x : Value)
  | emp
  | sl (t : Ty) (l : List t.T)
  | own (t : Ty) (l : List t.T)
  | view (p : Place) (full : Bool) (lo : Nat) (t : Ty) (l : List t.T)
  | ptr (b o : Nat)
  | gp (g o : Nat)
  | ea (t : Ty) (x : t.T) (o : Nat)
  | va (p : Place) (i : Nat) (t : Ty) (x : t.T) (o : Nat)
  | fn (f : FuncId) (caps : List (Nat × Nat))
  | lb (n : Nat)
  | np (cs : List CV)

structure Val where
  agg : Bool
  cs : List CV

inductive AV where
  | one (x : Val)
  | tup (l : List Val)

abbrev AV.c (x : CV) : AV := .one ⟨false, [x]⟩
abbrev AV.undef : AV := .one ⟨false, [.undef]⟩

structure St where
  slots : List AV
  boxes : List (Option (Bool × List CV))
  io : List CV

def Ty.cells : (t : Ty) → t.T → List CV
  | .int k, n => [.v (.int k n)]
  | .bool, b => [.v (.bool b)]
  | .str, s => [.v (.string s)]
  | .unit, _ => []
  | .pair a b, x => a.cells x.1 ++ b.cells x.2
  | .slice t, l => [.sl t l]

def ofInt (k : IntKind) : List CV → Option Int
  | [.v (.int k' n)] => if k = k' then some n else none
  | _ => none
def ofBool : List CV → Option Bool
  | [.v (.bool b)] => some b
  | _ => none
def ofStr : List CV → Option ByteArray
  | [.v (.string s)] => some s
  | _ => none
def ofUnit : List CV → Option Unit
  | [] => some ()
  | _ => none
def ofSl (t : Ty) : List CV → Option (List t.T)
  | [.sl t' l] => if h : t' = t then some (h ▸ l) else none
  | [.emp] => some []
  | _ => none

def Ty.ofCells : (t : Ty) → List CV → Option t.T
  | .int k, cs => ofInt k cs
  | .bool, cs => ofBool cs
  | .str, cs => ofStr cs
  | .unit, cs => ofUnit cs
  | .pair a b, cs => (a.ofCells (cs.take a.size)).bind fun x => (b.ofCells (cs.drop a.size)).map fun y => (x, y)
  | .slice t, cs => ofSl t cs

def Ty.zero : (t : Ty) → t.T
  | .int _ => (0 : Int)
  | .bool => false
  | .str => (⟨#[]⟩ : ByteArray)
  | .unit => ()
  | .pair a b => (a.zero, b.zero)
  | .slice _ => []

/-- A new variable's cells. -/
def Ty.fresh : Ty → List CV
  | .int k => [.v (.int k 0)]
  | .bool => [.v (.bool false)]
  | .str => [.v (.string ⟨#[]⟩)]
  | .unit => []
  | .pair a b => a.fresh ++ b.fresh
  | .slice t => [.own t []]

/-- Are these the machine's cells of a new variable? -/
def Ty.freshOk : Ty → List Value → Bool
  | .int k, [.int k' n] => decide (k = k') && decide (n = 0)
  | .bool, [.bool b] => !b
  | .str, [.string s] => decide (s.size = 0)
  | .unit, [] => true
  | .pair a b, vs => a.freshOk (vs.take a.size) && b.freshOk (vs.drop a.size)
  | .slice _, [.slice none n c] => decide (n = 0) && decide (c = 0)
  | _, _ => false

def tyFields (f : TypeId → Option Ty) : List Field → Option Ty
  | [] => some .unit
  | [x] => f x.type
  | x :: r => (f x.type).bind fun a => (tyFields f r).map fun b => .pair a b

/-- An array's kind: its elements one behind another. -/
def arrTy : Nat → Ty → Ty
  | 0, _ => .unit
  | 1, e => e
  | n + 2, e => .pair e (arrTy (n + 1) e)

def tyOf (P : Program) : Nat → TypeId → Option Ty
  | 0, _ => none
  | d + 1, t => match P.underlying t with
    | some (.int k) => some (.int k)
    | some .bool => some .bool
    | some .string => some .str
    | some (.slice e) => (tyOf P d e).map .slice
    | some (.struct fs) => tyFields (tyOf P d) fs.toList
    | some (.array n e) => if n ≤ 8 then (tyOf P d e).map (arrTy n) else none
    | _ => none

/-- A type's kind, if the machine's table agrees. -/
def ty? (P : Program) (t : TypeId) : Option Ty :=
  (tyOf P 8 t).bind fun y => match P.info? t with
    | some i => match i.zero with
      | some z => if i.size = y.size then (if y.freshOk z.cells.toList then some y else none) else none
      | none => none
    | none => none

def aggOf (P : Program) (t : TypeId) : Option Bool :=
  (P.underlying t).map fun
    | .struct _ | .array _ _ => true
    | _ => false

def sizeAt (P : Program) (t : TypeId) : Option Nat := (P.info? t).map (·.size)
def bytesAt (P : Program) (t : TypeId) : Option Nat := (P.info? t).map (·.bytes)

/-! ### looking at a state -/

/-- What is read off a place: a slice of the call's own is lent. -/
def lend (p : Place) : CV → CV
  | .own t l => .view p true 0 t l
  | .np _ => .undef
  | c => c

def lends (p : Nat → Place) : Nat → List CV → List CV
  | _, [] => []
  | i, c :: r => lend (p i) c :: lends p (i + 1) r

def lendVals (i : Nat) : Nat → List Val → List Val
  | _, [] => []
  | k, x :: r => ⟨x.agg, lends (.slot i k) 0 x.cs⟩ :: lendVals i (k + 1) r

def lendAV (i : Nat) : AV → AV
  | .one x => .one ⟨x.agg, lends (.slot i 0) 0 x.cs⟩
  | .tup l => .tup (lendVals i 0 l)

def St.get (st : St) (i : Nat) : AV := st.slots.getD i .undef

def constAV : Value → AV
  | .agg cs => .one ⟨true, cs.toList.map .v⟩
  | x => .c (.v x)

def St.opd (st : St) : Operand → AV
  | .tmp i => lendAV i (st.get i)
  | .const x => constAV x
  | .global g => .c (.gp g 0)
  | .func f => .c (.fn f [])

def CV.isOwn : CV → Bool
  | .own _ _ => true
  | _ => false

def Val.hasOwn (x : Val) : Bool := x.cs.any CV.isOwn
def AV.hasOwn : AV → Bool
  | .one x => x.hasOwn
  | .tup l => l.any Val.hasOwn

/-! ### changing all cells of a state -/

def Val.map (f : CV → CV) (x : Val) : Val := ⟨x.agg, x.cs.map f⟩
def AV.map (f : CV → CV) : AV → AV
  | .one x => .one (x.map f)
  | .tup l => .tup (l.map (Val.map f))
def St.map (f : CV → CV) (st : St) : St :=
  ⟨st.slots.map (AV.map f), st.boxes.map (Option.map fun x => (x.1, x.2.map f)), st.io.map f⟩

/-- The same, where a cell's place counts. -/
def mapCs (p : Nat → Place) (f : Place → CV → CV) : Nat → List CV → List CV
  | _, [] => []
  | i, c :: r => f (p i) c :: mapCs p f (i + 1) r

def Val.mapP (p : Nat → Place) (f : Place → CV → CV) (x : Val) : Val := ⟨x.agg, mapCs p f 0 x.cs⟩

def mapVals (i : Nat) (f : Place → CV → CV) : Nat → List Val → List Val
  | _, [] => []
  | k, x :: r => x.mapP (.slot i k) f :: mapVals i f (k + 1) r

def AV.mapP (i : Nat) (f : Place → CV → CV) : AV → AV
  | .one x => .one (x.mapP (.slot i 0) f)
  | .tup l => .tup (mapVals i f 0 l)

def mapSlots (f : Place → CV → CV) : Nat → List AV → List AV
  | _, [] => []
  | i, a :: r => a.mapP i f :: mapSlots f (i + 1) r

def mapBoxes (f : Place → CV → CV) : Nat → List (Option (Bool × List CV)) → List (Option (Bool × List CV))
  | _, [] => []
  | b, none :: r => none :: mapBoxes f (b + 1) r
  | b, some (ro, cs) :: r => some (ro, mapCs (.cell b) f 0 cs) :: mapBoxes f (b + 1) r

def St.mapP (f : Place → CV → CV) (st : St) : St := ⟨mapSlots f 0 st.slots, mapBoxes f 0 st.boxes, mapCs .arg f 0 st.io⟩

/-- Whoever has lent something of a place no longer has it. -/
def CV.unlend (bad : Place → Bool) : CV → CV
  | .view p f lo t l => if bad p then .undef else .view p f lo t l
  | .va p i t x o => if bad p then .undef else .va p i t x o
  | c => c

def Place.inSlot (d : Nat) : Place → Bool
  | .slot i _ _ => i == d
  | _ => false

def St.set (st : St) (d : Nat) (a : AV) : St := ⟨st.slots.set d a, st.boxes, st.io⟩

/-- Whoever holds what lies at these places gives it up. -/
def St.giveUpAll (st : St) (bad : Place → Bool) : St :=
  st.mapP fun q c => match bad q with
    | true => .undef
    | false => c.unlend bad

def AV.all (f : CV → Bool) : AV → Bool
  | .one x => x.cs.all f
  | .tup l => l.all fun x => x.cs.all f

/-- Does it speak of nothing that slot 'd' has lent? -/
def CV.avoids (d : Nat) : CV → Bool
  | .view p _ _ _ _ => !p.inSlot d
  | .va p _ _ _ _ => !p.inSlot d
  | _ => true

/-- A value goes into a slot. 'strict': the slot held nothing of the call's own. -/
def St.put (strict : Bool) (st : St) (d : Nat) (a : AV) {R : Type} (k : St → Option R) : Option R :=
  match (st.get d).hasOwn with
  | false => k (st.set d a)
  | true => match strict with
    | true => none
    | false => if a.all (CV.avoids d) then k ((st.giveUpAll (Place.inSlot d)).set d a) else none


/-! ### operations that change nothing but their own slot -/

/-- What the machine is told from outside: the contracts of the functions, the tables. -/
structure Contract where
  io : List Bool
  β : Type
  G : List (List CV) → List Val → Option β
  enc : β → AV × List CV
  /-- Are the variables lent to be written to? -/
  rw : Bool := false
  encB : β → List (List CV) := fun _ => []
  /-- A result of several forms is told apart. -/
  alt : {R : Type} → β → (β → Option R) → Option R := fun x k => k x
  altOk : ∀ {R : Type} (x : β) (k : β → Option R), alt x k = k x := by intros; rfl

structure Ctx where
  P : Program
  ρ : FuncId → Option Contract
  glob : Nat → Option (List CV)
  /-- Are parts of empty slices told apart? -/
  opt : Bool := false

def idx {α : Type} (l : List α) (i : Int) : Option α := if 0 ≤ i then l[i.toNat]? else none
def idxB (s : ByteArray) (i : Int) : Option UInt8 := if 0 ≤ i then s[i.toNat]? else none

/-- An operand; a constant that is its type's zero value is told as a new variable's cells. -/
def St.opdT (P : Program) (T : TypeId) (st : St) : Operand → AV
  | .const x => match ty? P T with
    | some y => if y.freshOk x.cells.toList then .one ⟨(match x with | .agg _ => true | _ => false), y.fresh⟩ else constAV x
    | none => constAV x
  | x => st.opd x

/-- An operand of '=='. -/
def St.eqOpd (P : Program) (T : TypeId) (st : St) : Operand → AV
  | .const (.slice none n c) => .c (.v (.slice none n c))
  | x => st.opdT P T x

def St.argAVs (st : St) (P : Program) : List Operand → List TypeId → List AV
  | [], _ => []
  | x :: r, T :: ts => st.opdT P T x :: st.argAVs P r ts
  | x :: r, [] => st.opd x :: st.argAVs P r []

def cint : AV → Option (IntKind × Int)
  | .one ⟨false, [.v (.int k n)]⟩ => some (k, n)
  | _ => none

section
variable {R : Type}

def aPick (c x y : AV) (k : AV → Option R) : Option R :=
  match c with
  | .one ⟨false, [.v (.bool c)]⟩ => match x, y with
    | .one ⟨false, [.v (.bool x)]⟩, .one ⟨false, [.v (.bool y)]⟩ => k (.c (.v (.bool (cond c x y))))
    | x, y => cond c (k x) (k y)
  | _ => none

/-- The cells at which a pointer points. -/
def cellsAt (C : Ctx) (st : St) : CV → Option (Nat × List CV)
  | .ptr b o => match st.boxes.getD b none with
    | some (_, cs) => some (o, lends (.cell b) 0 cs)
    | none => none
  | .gp g o => match C.glob g with
    | some cs => some (o, cs)
    | none => none
  | .ea t x o => some (o, t.cells x)
  | .va _ _ t x o => some (o, t.cells x)
  | _ => none

def aLoad (C : Ctx) (st : St) (T : TypeId) (a : AV) (k : AV → Option R) : Option R :=
  match a with
  | .one ⟨false, [a]⟩ => match cellsAt C st a with
    | some (o, cs) => match aggOf C.P T with
      | some true => match sizeAt C.P T with
        | some n => if ((cs.drop o).take n).length = n then k (.one ⟨true, (cs.drop o).take n⟩) else none
        | none => none
      | some false => match cs[o]? with
        | some c => k (.c c)
        | none => none
      | none => none
    | none => none
  | _ => none

def aNil (a : AV) (k : AV → Option R) : Option R :=
  match a with
  | .one ⟨false, [.ptr b o]⟩ => k (.c (.ptr b o))
  | .one ⟨false, [.gp b o]⟩ => k (.c (.gp b o))
  | .one ⟨false, [.ea t x o]⟩ => k (.c (.ea t x o))
  | .one ⟨false, [.va p i t x o]⟩ => k (.c (.va p i t x o))
  | _ => none

def aInt (op : BinOp) (κ : IntKind) (a b : Int) (k : AV → Option R) : Option R :=
  match op with
  | .add => k (.c (.v (.int κ (κ.wrap (a + b)))))
  | .sub => k (.c (.v (.int κ (κ.wrap (a - b)))))
  | .mul => k (.c (.v (.int κ (κ.wrap (a * b)))))
  | .quo => cond (decide (b = 0)) none (k (.c (.v (.int κ (κ.wrap (a.tdiv b))))))
  | .rem => cond (decide (b = 0)) none (k (.c (.v (.int κ (a.tmod b)))))
  | .and => k (.c (.v (.int κ (κ.wrap (BitVec.ofInt κ.bits a &&& BitVec.ofInt κ.bits b).toNat))))
  | .or => k (.c (.v (.int κ (κ.wrap (BitVec.ofInt κ.bits a ||| BitVec.ofInt κ.bits b).toNat))))
  | .xor => k (.c (.v (.int κ (κ.wrap (BitVec.ofInt κ.bits a ^^^ BitVec.ofInt κ.bits b).toNat))))
  | .andNot => k (.c (.v (.int κ (κ.wrap (BitVec.ofInt κ.bits a &&& ~~~(BitVec.ofInt κ.bits b)).toNat))))
  | .eql => k (.c (.v (.bool (a == b))))
  | .neq => k (.c (.v (.bool (a != b))))
  | .lss => k (.c (.v (.bool (decide (a < b)))))
  | .leq => k (.c (.v (.bool (decide (a ≤ b)))))
  | .gtr => k (.c (.v (.bool (decide (a > b)))))
  | .geq => k (.c (.v (.bool (decide (a ≥ b)))))
  | _ => none

def aShift (op : BinOp) (κ : IntKind) (a b : Int) (k : AV → Option R) : Option R :=
  match op with
  | .shl => cond (decide (b < 0)) none (k (.c (.v (.int κ (κ.wrap (a * 2 ^ (min b.toNat κ.bits)))))))
  | .shr => cond (decide (b < 0)) none (k (.c (.v (.int κ (a.fdiv (2 ^ (min b.toNat κ.bits)))))))
  | _ => none

def aStr (op : BinOp) (a b : ByteArray) (k : AV → Option R) : Option R :=
  match op with
  | .add => cond (decide (((a.size + b.size : Nat) : Int) > IntKind.i64.max)) none (k (.c (.v (.string (a ++ b)))))
  | .eql => k (.c (.v (.bool (a.toList == b.toList))))
  | .neq => k (.c (.v (.bool (!(a.toList == b.toList)))))
  | .lss => k (.c (.v (.bool (Op.bytesLess a.toList b.toList))))
  | .leq => k (.c (.v (.bool (Op.bytesLess a.toList b.toList || a.toList == b.toList))))
  | .gtr => k (.c (.v (.bool (!(Op.bytesLess a.toList b.toList || a.toList == b.toList)))))
  | .geq => k (.c (.v (.bool (!(Op.bytesLess a.toList b.toList)))))
  | _ => none

/-- '==' of structs, field by field. -/
def fieldsEq (f : TypeId → List CV → List CV → Option Bool) (P : Program) (as bs : List CV) : List Field → Option Bool
  | [] => some true
  | x :: r => match sizeAt P x.type, aggOf P x.type, x.name == "_" with
    | some n, some a, false =>
      if (a || n == 1) && (((as.drop x.offset).take n).length == n && ((bs.drop x.offset).take n).length == n) then (match f x.type ((as.drop x.offset).take n) ((bs.drop x.offset).take n), fieldsEq f P as bs r with
        | some p, some q => some (p && q)
        | _, _ => none) else none
    | _, _, _ => none

def eqT (P : Program) : Nat → TypeId → List CV → List CV → Option Bool
  | 0, _, _, _ => none
  | d + 1, T, as, bs => match P.underlying T with
    | some (.int _) => match as, bs with
      | [.v (.int k a)], [.v (.int k' b)] => if k = k' then some (a == b) else none
      | _, _ => none
    | some .bool => match as, bs with
      | [.v (.bool a)], [.v (.bool b)] => some (a == b)
      | _, _ => none
    | some .string => match as, bs with
      | [.v (.string a)], [.v (.string b)] => some (a == b)
      | _, _ => none
    | some (.struct fs) => match P.stoodInHeld T with
      | false => fieldsEq (eqT P d) P as bs fs.toList
      | true => none
    | _ => none

/-- Is it nil? Not if it has elements; else nothing is known. -/
def aNilEq (P : Program) (op : BinOp) (T : TypeId) (n : Nat) (k : AV → Option R) : Option R :=
  match P.underlying T, op with
  | some (.slice _), .eql => cond (decide (0 < n)) (k (.c (.v (.bool false)))) none
  | some (.slice _), .neq => cond (decide (0 < n)) (k (.c (.v (.bool true)))) none
  | _, _ => none

def aBin (P : Program) (op : BinOp) (T : TypeId) (x y : AV) (k : AV → Option R) : Option R :=
  match x, y with
  | .one ⟨false, [.v (.int κ a)]⟩, .one ⟨false, [.v (.int κ' b)]⟩ =>
    match op with
    | .shl => aShift .shl κ a b k
    | .shr => aShift .shr κ a b k
    | op => if κ = κ' then aInt op κ a b k else none
  | .one ⟨false, [.v (.int κ a)]⟩, .one ⟨false, [.lb n]⟩ =>
    match op with
    | .gtr => if κ = .i64 then cond (decide (a ≤ n)) (k (.c (.v (.bool false)))) none else none
    | _ => none
  | .one ⟨false, [.v (.string a)]⟩, .one ⟨false, [.v (.string b)]⟩ => aStr op a b k
  | .one ⟨false, [.v (.bool a)]⟩, .one ⟨false, [.v (.bool b)]⟩ =>
    match aggOf P T, P.underlying T, op with
    | some false, some .bool, .eql => k (.c (.v (.bool (a == b))))
    | some false, some .bool, .neq => k (.c (.v (.bool (!(a == b)))))
    | _, _, _ => none
  | .one ⟨true, as⟩, .one ⟨true, bs⟩ =>
    match aggOf P T, P.eqGuardType P.depth T, eqT P 8 T as bs with
    | some true, false, some r => match op with
      | .eql => k (.c (.v (.bool r)))
      | .neq => k (.c (.v (.bool (!r))))
      | _ => none
    | _, _, _ => none
  | .one ⟨false, [.sl _ l]⟩, .one ⟨false, [.v (.slice none _ _)]⟩ => aNilEq P op T l.length k
  | .one ⟨false, [.view _ _ _ _ l]⟩, .one ⟨false, [.v (.slice none _ _)]⟩ => aNilEq P op T l.length k
  | .one ⟨false, [.v (.slice A _ _)]⟩, .one ⟨false, [.v (.slice none _ _)]⟩ =>
    match P.underlying T, op with
    | some (.slice _), .eql => k (.c (.v (.bool A.isNone)))
    | some (.slice _), .neq => k (.c (.v (.bool (!A.isNone))))
    | _, _ => none
  | _, _ => none

def aUn (op : UnOp) (x : AV) (k : AV → Option R) : Option R :=
  match op, x with
  | .not, .one ⟨false, [.v (.bool b)]⟩ => k (.c (.v (.bool (!b))))
  | .neg, .one ⟨false, [.v (.int κ n)]⟩ => k (.c (.v (.int κ (κ.wrap (0 - n)))))
  | _, _ => none

/-- A slice of bytes. -/
def byteList : AV → Option (List Int)
  | .one ⟨false, [.sl (.int .u8) l]⟩ => some l
  | .one ⟨false, [.view _ _ _ (.int .u8) l]⟩ => some l
  | .one ⟨false, [.emp]⟩ => some []
  | _ => none

def strOfBytes (l : List Int) : ByteArray := l.foldl (fun r n => r.push (UInt8.ofNat n.toNat)) ByteArray.empty

def aConv (P : Program) (s d : TypeId) (x : AV) (k : AV → Option R) : Option R :=
  match P.underlying s, P.underlying d, x with
  | some (.int _), some (.int κ), .one ⟨false, [.v (.int _ n)]⟩ => k (.c (.v (.int κ (κ.wrap n))))
  | some .string, some .string, .one ⟨false, [.v (.string s)]⟩ => k (.c (.v (.string s)))
  | some (.slice e), some .string, x => match P.underlying e, byteList x with
    | some (.int .u8), some l => k (.c (.v (.string (strOfBytes l))))
    | _, _ => none
  | _, _, _ => none

def fieldOf (P : Program) (T : TypeId) (f : Nat) : Option (Nat × Nat × Bool) :=
  match P.underlying T with
  | some (.struct fs) => match fs[f]? with
    | some x => match sizeAt P x.type, aggOf P x.type with
      | some n, some b => some (x.offset, n, b)
      | _, _ => none
    | none => none
  | _ => none

def aFieldAddr (P : Program) (T : TypeId) (x : AV) (f : Nat) (k : AV → Option R) : Option R :=
  match fieldOf P T f with
  | some (off, n, _) => if n = 0 then none else match x with
    | .one ⟨false, [.ptr b o]⟩ => k (.c (.ptr b (o + off)))
    | .one ⟨false, [.gp b o]⟩ => k (.c (.gp b (o + off)))
    | .one ⟨false, [.ea t x o]⟩ => k (.c (.ea t x (o + off)))
    | .one ⟨false, [.va p i t x o]⟩ => k (.c (.va p i t x (o + off)))
    | _ => none
  | none => none

def aField (P : Program) (T : TypeId) (x : AV) (f : Nat) (k : AV → Option R) : Option R :=
  match fieldOf P T f, x with
  | some (off, n, true), .one ⟨true, cs⟩ => if ((cs.drop off).take n).length = n then k (.one ⟨true, (cs.drop off).take n⟩) else none
  | some (off, _, false), .one ⟨true, cs⟩ => match cs[off]? with
    | some c => k (.c c)
    | none => none
  | _, _ => none

def elemTy (P : Program) (T : TypeId) : Option (TypeId × Ty) :=
  match P.underlying T with
  | some (.slice e) => (ty? P e).map fun y => (e, y)
  | _ => none

/-- The first 'm' numbers from 'j' on, one by one. -/
def pickAt (i : Int) (k : Nat → Option R) : Nat → Nat → Option R
  | 0, _ => none
  | m + 1, j => cond (decide (i = (j : Int))) (k j) (pickAt i k m (j + 1))

def aIndexAddr (P : Program) (T : TypeId) (x i : AV) (k : AV → Option R) : Option R :=
  match cint i with
  | some (_, i) => match x with
    | .one ⟨false, [.sl t l]⟩ => match elemTy P T with
      | some (_, t') => if t'.size = t.size then (idx l i).bind fun y => k (.c (.ea t y 0)) else none
      | none => none
    | .one ⟨false, [.view p _ lo t l]⟩ => match elemTy P T with
      | some (_, t') => if t'.size = t.size then (idx l i).bind fun y => k (.c (.va p (lo + i.toNat) t y 0)) else none
      | none => none
    | .one ⟨false, [.gp g o]⟩ => match P.underlying T with
      | some (.array n e) => match sizeAt P e with
        | some z => if n ≤ 64 then pickAt i (fun j => k (.c (.gp g (o + j * z)))) n 0 else none
        | none => none
      | _ => none
    | .one ⟨false, [.ea t y o]⟩ => match P.underlying T with
      | some (.array n e) => match sizeAt P e with
        | some z => if n ≤ 8 then pickAt i (fun j => k (.c (.ea t y (o + j * z)))) n 0 else none
        | none => none
      | _ => none
    | .one ⟨false, [.va p m t y o]⟩ => match P.underlying T with
      | some (.array n e) => match sizeAt P e with
        | some z => if n ≤ 8 then pickAt i (fun j => k (.c (.va p m t y (o + j * z)))) n 0 else none
        | none => none
      | _ => none
    | _ => none
  | none => none

/-- The elements of a listed table. -/
def rowsOf (t : Ty) : Nat → List CV → Option (List t.T)
  | 0, [] => some []
  | 0, _ :: _ => none
  | n + 1, cs => match t.ofCells (cs.take t.size), rowsOf t n (cs.drop t.size) with
    | some x, some l => some (x :: l)
    | _, _ => none

/-- The same, where the table is not small: its elements as a list. -/
def aIndexG (C : Ctx) (T : TypeId) (x i : AV) (k : AV → Option R) : Option R :=
  match x, C.P.underlying T with
  | .one ⟨false, [.gp g 0]⟩, some (.array n e) => match decide (n ≤ 8) with
    | true => aIndexAddr C.P T x i k
    | false => match cint i, ty? C.P e, C.glob g with
      | some (_, i), some t, some cs => match rowsOf t n cs with
        | some l => (idx l i).bind fun y => k (.c (.ea t y 0))
        | none => none
      | _, _, _ => none
  | _, _ => aIndexAddr C.P T x i k

def aIndex (P : Program) (T : TypeId) (x i : AV) (k : AV → Option R) : Option R :=
  match P.underlying T, x, cint i with
  | some .string, .one ⟨false, [.v (.string s)]⟩, some (_, i) => (idxB s i).bind fun b => k (.c (.v (.int .u8 b.toNat)))
  | _, _, _ => none

/-- The bounds of a cut: 'none' is the default. -/
def cutAt (n : Nat) (lo hi : Option AV) (k : Nat → Nat → Option R) : Option R :=
  match lo, hi with
  | none, none => k 0 n
  | some lo, none => match cint lo with
    | some (_, lo) => cond (decide (0 ≤ lo)) (cond (decide (lo ≤ n)) (k lo.toNat n) none) none
    | none => none
  | none, some hi => match cint hi with
    | some (_, hi) => cond (decide (0 ≤ hi)) (cond (decide (hi ≤ n)) (k 0 hi.toNat) none) none
    | none => none
  | some lo, some hi => match cint lo, cint hi with
    | some (_, lo), some (_, hi) => cond (decide (0 ≤ lo)) (cond (decide (lo ≤ hi)) (cond (decide (hi ≤ n)) (k lo.toNat hi.toNat) none) none) none
    | _, _ => none

def cutAt3 (n : Nat) (lo hi mx : AV) (k : Option R) : Option R :=
  match cint lo, cint hi, cint mx with
  | some (_, lo), some (_, hi), some (_, mx) => cond (decide (0 ≤ lo)) (cond (decide (lo ≤ hi)) (cond (decide (hi ≤ mx)) (cond (decide (mx ≤ n)) k none) none) none) none
  | _, _, _ => none

def isZero : AV → Bool
  | .one ⟨false, [.v (.int _ 0)]⟩ => true
  | _ => false

def aSlice (P : Program) (em : Bool) (T : TypeId) (x : AV) (lo hi mx : Option AV) (k : AV → Option R) : Option R :=
  match P.underlying T, x with
  | some .string, .one ⟨false, [.v (.string s)]⟩ => match mx with
    | none => cutAt s.size lo hi fun l h => k (.c (.v (.string (s.extract l h))))
    | some _ => none
  | some (.slice e), .one ⟨false, [x]⟩ => match ty? P e with
    | none => none
    | some t' => match mx with
      | some m => match lo, hi with
        | none, some h => if isZero h && isZero m then (match x with
            | .sl _ _ => k (.c .emp)
            | .view _ _ _ _ _ => k (.c .emp)
            | .emp => k (.c .emp)
            | _ => none) else none
        | some lo, some h => (match x with
          | .view _ _ _ t l => if t'.size = t.size then cutAt3 l.length lo h m (k AV.undef) else none
          | _ => none)
        | _, _ => none
      | none => match x with
        | .sl t l => if t'.size = t.size then cutAt l.length lo hi fun a b => k (.c (.sl t ((l.take b).drop a))) else none
        | .view p f o t l => if t'.size = t.size then (match f with
          | true => cond (decide (0 < l.length)) (cutAt l.length lo hi fun a b => k (.c (.view p false (o + a) t ((l.take b).drop a)))) (match em with
            | true => cutAt 0 lo hi fun _ _ => k (.c (.sl t []))
            | false => none)
          | false => cutAt l.length lo hi fun a b => k (.c (.view p false (o + a) t ((l.take b).drop a)))) else none
        | _ => none
  | _, _ => none

/-- What fits into one cell. -/
def CV.solid : CV → Bool
  | .undef => false
  | .np _ => false
  | .v (.agg _) => false
  | .v (.tuple _) => false
  | _ => true

/-- Parts into cells. -/
def splice (cs : List CV) (o : Nat) (new : List CV) : List CV := cs.take o ++ new ++ cs.drop (o + new.length)

/-- Where a part of a struct or an array lies. -/
def partOf (P : Program) (T : TypeId) (i : Nat) : Option (Nat × Nat) :=
  match P.underlying T with
  | some (.array n e) => if i < n then (sizeAt P e).map fun z => (i * z, z) else none
  | _ => (fieldOf P T i).map fun x => (x.1, x.2.1)

def fillParts (P : Program) (T : TypeId) : List CV → List (Nat × AV) → Option (List CV)
  | cs, [] => some cs
  | cs, (i, .one x) :: r => match partOf P T i with
    | some (off, n) => if x.cs.length = n then (if off + n ≤ cs.length then (if x.agg || x.cs.all CV.solid then fillParts P T (splice cs off x.cs) r else none) else none) else none
    | none => none
  | _, _ => none

def aBuild (P : Program) (T : TypeId) (parts : List (Nat × AV)) (k : AV → Option R) : Option R :=
  match aggOf P T, P.underlying T, ty? P T with
  | some true, some (.struct fs), some t => if fs.toList.all fun f => (sizeAt P f.type).isSome then (match fillParts P T t.fresh parts with
    | some cs => k (.one ⟨true, cs⟩)
    | none => none) else none
  | some true, some (.array _ e), some t => if (sizeAt P e).isSome then (match fillParts P T t.fresh parts with
    | some cs => k (.one ⟨true, cs⟩)
    | none => none) else none
  | _, _, _ => none

def fillElems (t : Ty) : List t.T → List (Nat × AV) → Option (List t.T)
  | l, [] => some l
  | l, (i, .one x) :: r => match t.ofCells x.cs with
    | some y => if i < l.length then (if x.agg || x.cs.all CV.solid then fillElems t (l.set i y) r else none) else none
    | none => none
  | _, _ => none

def aBuildSlice (P : Program) (T : TypeId) (n : Nat) (parts : List (Nat × AV)) (k : AV → Option R) : Option R :=
  match elemTy P T with
  | some (_, t) => if n * t.size ≤ 2 ^ 24 then (match fillElems t (List.replicate n t.zero) parts with
    | some l => k (.c (.own t l))
    | none => none) else none
  | none => none

def aMakeSlice (P : Program) (T : TypeId) (n c : AV) (k : AV → Option R) : Option R :=
  match elemTy P T, cint n, cint c with
  | some (e, t), some (.i64, n), some (.i64, c) => match bytesAt P e with
    | some b => cond (decide (0 ≤ n)) (cond (decide (n ≤ c)) (cond (decide (c * b ≤ 70368744177664)) (cond (decide (c ≤ 70368744177664)) (k (.c (.own t (List.replicate n.toNat t.zero)))) none) none) none) none
    | none => none
  | _, _, _ => none

def aExtract (x : AV) (i : Nat) (k : AV → Option R) : Option R :=
  match x with
  | .tup l => match l[i]? with
    | some x => k (.one x)
    | none => none
  | _ => none

def capsOf : List AV → Option (List (Nat × Nat))
  | [] => some []
  | .one ⟨false, [.ptr b o]⟩ :: r => (capsOf r).map ((b, o) :: ·)
  | _ => none

def aMakeFunc (f : Fn) (first caps : List AV) (k : AV → Option R) : Option R :=
  match f, first, capsOf caps with
  | .func f, [], some l => k (.c (.fn f l))
  | _, _, _ => none

/-! ### calls -/

/-- Told to a callee that only reads. -/
def roc : CV → CV
  | .own t l => .sl t l
  | .view _ _ _ t l => .sl t l
  | .va _ _ t x o => .ea t x o
  | .ptr _ _ => .undef
  | .fn f [] => .fn f []
  | .fn _ _ => .undef
  | .np _ => .undef
  | c => c

/-- A pointer to a variable becomes one to the callee's own copy. -/
def roPtr (st : St) (b o : Nat) (acc : List (List CV)) : Option ((Nat × Nat) × List (List CV)) :=
  match st.boxes.getD b none with
  | some (_, cs) => some ((acc.length, o), acc ++ [cs.map roc])
  | none => none

def roCaps (st : St) : List (Nat × Nat) → List (List CV) → Option (List (Nat × Nat) × List (List CV))
  | [], acc => some ([], acc)
  | (b, o) :: r, acc => match roPtr st b o acc with
    | some (x, acc) => match roCaps st r acc with
      | some (l, acc) => some (x :: l, acc)
      | none => none
    | none => none

def roCs (st : St) : List CV → List (List CV) → Option (List CV × List (List CV))
  | [], acc => some ([], acc)
  | .ptr b o :: r, acc => match roPtr st b o acc with
    | some ((b, o), acc) => match roCs st r acc with
      | some (l, acc) => some (.ptr b o :: l, acc)
      | none => none
    | none => none
  | .fn f caps :: r, acc => match roCaps st caps acc with
    | some (caps, acc) => match roCs st r acc with
      | some (l, acc) => some (.fn f caps :: l, acc)
      | none => none
    | none => none
  | c :: r, acc => match roCs st r acc with
    | some (l, acc) => some (roc c :: l, acc)
    | none => none

def roVals (st : St) : List AV → List (List CV) → Option (List Val × List (List CV))
  | [], acc => some ([], acc)
  | .one x :: r, acc => match roCs st x.cs acc with
    | some (cs, acc) => match roVals st r acc with
      | some (l, acc) => some (⟨x.agg, cs⟩ :: l, acc)
      | none => none
    | none => none
  | _, _ => none

def CV.isImm : CV → Bool
  | .v _ => true | .emp => true | .sl _ _ => true | .gp _ _ => true
  | .fn _ [] => true
  | .undef => true
  | _ => false

def Ty.isFlat : Ty → Bool
  | .slice _ => false
  | .pair a b => a.isFlat && b.isFlat
  | _ => true

/-- A result that holds none of the arguments' memory. -/
def CV.isFresh0 : CV → Bool
  | .v _ => true | .emp => true | .own t _ => t.isFlat | .undef => true
  | .fn _ [] => true
  | _ => false

def CV.isFresh : CV → Bool
  | .np cs => cs.all CV.isFresh0
  | c => c.isFresh0

def CV.isFlat : CV → Bool
  | .v _ => true | .emp => true | .own _ _ => true | .undef => true | .sl _ _ => true
  | .fn _ [] => true
  | _ => false

def CV.isFlatN : CV → Bool
  | .np cs => cs.all CV.isFlat
  | c => c.isFlat

def aCall (C : Ctx) (st : St) (f : AV) (args : List AV) (k : AV → Option R) : Option R :=
  match f with
  | .one ⟨false, [.fn f caps]⟩ => match C.ρ f with
    | some c => match c.io, c.rw with
      | [], false => match roVals st (args ++ caps.map fun x => .c (.ptr x.1 x.2)) [] with
        | some (vs, bs) => (c.G bs vs).bind fun x => c.alt x fun x =>
            if (c.enc x).1.all CV.isFresh || ((c.enc x).1.all CV.isFlatN && args.all (AV.all CV.isImm) && caps.isEmpty) then k (c.enc x).1 else none
        | none => none
      | _, _ => none
    | none => none
  | _ => none

def aLen (P : Program) (T : Option TypeId) (x : AV) (k : AV → Option R) : Option R :=
  match T.bind P.underlying, x with
  | some .string, .one ⟨false, [.v (.string s)]⟩ => k (.c (.v (.int .i64 s.size)))
  | some (.slice _), .one ⟨false, [.sl _ l]⟩ => k (.c (.v (.int .i64 l.length)))
  | some (.slice _), .one ⟨false, [.view _ _ _ _ l]⟩ => k (.c (.v (.int .i64 l.length)))
  | some (.slice _), .one ⟨false, [.emp]⟩ => k (.c (.v (.int .i64 0)))
  | _, _ => none

def aCap (P : Program) (T : Option TypeId) (x : AV) (k : AV → Option R) : Option R :=
  match T.bind P.underlying, x with
  | some (.slice _), .one ⟨false, [.view _ _ _ _ l]⟩ => k (.c (.lb l.length))
  | _, _ => none

def aMax2 (mx : Bool) (x y : AV) : Option AV :=
  match x, y with
  | .one ⟨false, [.v (.int κ a)]⟩, .one ⟨false, [.v (.int _ b)]⟩ => some (.c (.v (.int κ (if mx then (if b > a then b else a) else (if b < a then b else a)))))
  | _, _ => none

def aMax (mx : Bool) (xs : List AV) (k : AV → Option R) : Option R :=
  match xs with
  | x :: r => match r.foldl (fun acc y => acc.bind fun x => aMax2 mx x y) (some x) with
    | some z => k z
    | none => none
  | [] => none

def aop (C : Ctx) (st : St) (o : Oper) (k : AV → Option R) : Option R :=
  match o.op with
  | .move x => k (st.opdT C.P o.type x)
  | .pick c x y => aPick (st.opd c) (st.opd x) (st.opd y) k
  | .load t a => aLoad C st t (st.opd a) k
  | .nilCheck x => aNil (st.opd x) k
  | .binOp op t x y _ => aBin C.P op t (st.eqOpd C.P t x) (st.eqOpd C.P t y) k
  | .unOp op _ x => aUn op (st.opd x) k
  | .convert s d x => aConv C.P s d (st.opd x) k
  | .fieldAddr t x f => aFieldAddr C.P t (st.opd x) f k
  | .field t x f => aField C.P t (st.opd x) f k
  | .indexAddr t x i => aIndexG C t (st.opd x) (st.opd i) k
  | .index t x i => aIndex C.P t (st.opd x) (st.opd i) k
  | .slice t x lo hi mx => aSlice C.P C.opt t (st.opd x) (lo.map st.opd) (hi.map st.opd) (mx.map st.opd) k
  | .build t ps => aBuild C.P t (ps.toList.map fun p => (p.1, st.opd p.2)) k
  | .buildSlice t n ps => aBuildSlice C.P t n (ps.toList.map fun p => (p.1, st.opd p.2)) k
  | .makeSlice t n c => aMakeSlice C.P t (st.opd n) (st.opd c) k
  | .extract x i => aExtract (st.opd x) i k
  | .makeFunc f a b => aMakeFunc f (a.toList.map st.opd) (b.toList.map st.opd) k
  | .call c => match c.callee with
    | .value f => aCall C st (st.opd f) (st.argAVs C.P c.args.toList c.argTypes.toList) k
    | .builtin .len => match c.args.toList with
      | [x] => aLen C.P c.argTypes[0]? (st.opd x) k
      | _ => none
    | .builtin .cap => match c.args.toList with
      | [x] => aCap C.P c.argTypes[0]? (st.opd x) k
      | _ => none
    | .builtin .max => aMax true (c.args.toList.map st.opd) k
    | .builtin .min => aMax false (c.args.toList.map st.opd) k
    | _ => none
  | _ => none
end


/-! ### operations that change more -/

def Place.isBoxFrom (b o n : Nat) : Place → Bool
  | .cell b' j => b' == b && decide (o ≤ j) && decide (j < o + n)
  | _ => false

/-- Whoever holds it gives it up. -/
def St.giveUp (st : St) (p : Place) : St := st.giveUpAll fun q => decide (q = p)

/-- What was lent becomes the holder's own ('bad': given up already). -/
def steal (bad : List Place) : List CV → St → List CV × St
  | [], st => ([], st)
  | .view p _ _ t l :: r, st => match bad.any fun q => decide (q = p) with
    | true => let x := steal bad r st; (.undef :: x.1, x.2)
    | false => let x := steal (p :: bad) r (st.giveUp p); (.own t l :: x.1, x.2)
  | .va _ _ _ _ _ :: r, st => let x := steal bad r st; (.undef :: x.1, x.2)
  | c :: r, st => let x := steal bad r st; (c :: x.1, x.2)

def Place.isArg : Place → Bool
  | .arg _ => true
  | _ => false

/-- Into a variable: what was lent to the call itself stays lent. -/
def stealB (bad : List Place) : List CV → St → List CV × St
  | [], st => ([], st)
  | .view p f lo t l :: r, st => match p.isArg with
    | true => let x := stealB bad r st; (.view p f lo t l :: x.1, x.2)
    | false => match bad.any fun q => decide (q = p) with
      | true => let x := stealB bad r st; (.undef :: x.1, x.2)
      | false => let x := stealB (p :: bad) r (st.giveUp p); (.own t l :: x.1, x.2)
  | .va _ _ _ _ _ :: r, st => let x := stealB bad r st; (.undef :: x.1, x.2)
  | c :: r, st => let x := stealB bad r st; (c :: x.1, x.2)

def CV.isVal : CV → Bool
  | .v _ => true
  | _ => false

def St.atPlace (st : St) : Place → CV
  | .slot i k j => match st.get i with
    | .one x => if k = 0 then x.cs.getD j .undef else .undef
    | .tup l => match l[k]? with
      | some x => x.cs.getD j .undef
      | none => .undef
  | .cell b j => match st.boxes.getD b none with
    | some (_, cs) => cs.getD j .undef
    | none => .undef
  | .arg j => st.io.getD j .undef

/-- What was the call's own is everybody's from now on, and never changes again. -/
def CV.froze (p : Place) : CV → CV
  | .view q f lo t l => if q = p then .sl t l else .view q f lo t l
  | .va q i t x o => if q = p then .ea t x o else .va q i t x o
  | c => c

def CV.frozeOwn (p q : Place) : CV → CV
  | .own t l => if q = p then .sl t l else .own t l
  | c => c.froze p

def St.freeze (st : St) (p : Place) : St := st.mapP (CV.frozeOwn p)

def St.freezeAll (st : St) : List Place → St
  | [] => st
  | p :: r => (st.freeze p).freezeAll r

def AV.frozeAll (a : AV) : List Place → AV
  | [] => a
  | p :: r => (a.map (CV.froze p)).frozeAll r

/-- A slice without elements. -/
def CV.tidy : CV → CV
  | .own t [] => .sl t []
  | .v (.slice _ 0 0) => .emp
  | c => c

def CV.heldAt : CV → List Place
  | .view p _ _ _ _ => [p]
  | _ => []

def AV.held : AV → List Place
  | .one x => x.cs.flatMap CV.heldAt
  | .tup _ => []

def isVa : AV → Bool
  | .one ⟨false, [.va _ _ _ _ _]⟩ => true
  | _ => false

def CV.isImmV : CV → Bool
  | .v _ => true
  | .sl _ _ => true
  | .emp => true
  | _ => false

/-- An element of a slice of the call's own has changed. -/
def CV.refresh (p : Place) (i : Nat) (t : Ty) (y : t.T) : CV → CV
  | .view q f lo t' l => if q = p then (if h : t = t' then (match lo with
    | 0 => .view q f 0 t' (l.set i (h ▸ y))
    | lo + 1 => .view q f (lo + 1) t' (if lo + 1 ≤ i then l.set (i - (lo + 1)) (h ▸ y) else l)) else .undef) else .view q f lo t' l
  | .va q i' t' x o => if q = p then (if h : t = t' then .va q i' t' (if i' = i then h ▸ y else x) o else .undef) else .va q i' t' x o
  | c => c

def CV.refreshOwn (p : Place) (i : Nat) (t : Ty) (y : t.T) : CV → CV
  | .own t' l => if h : t = t' then .own t' (l.set i (h ▸ y)) else .undef
  | c => c.refresh p i t y

/-- Elements over others, from 'lo' on. -/
def overE {α : Type} (lo : Nat) (ys : List α) (i : Nat) (x : α) : α := if lo ≤ i then (ys[i - lo]?).getD x else x

def overL {α : Type} (k lo : Nat) (ys l : List α) : List α := l.mapIdx fun i x => overE lo ys (k + i) x

/-- Elements of a slice of the call's own have changed. -/
def CV.bulk (p : Place) (lo : Nat) (t : Ty) (ys : List t.T) : CV → CV
  | .view q f k t' l => if q = p then (if h : t = t' then .view q f k t' (overL k lo (h ▸ ys) l) else .undef) else .view q f k t' l
  | .va q i' t' x o => if q = p then .undef else .va q i' t' x o
  | c => c

def CV.bulkOwn (p : Place) (lo : Nat) (t : Ty) (ys : List t.T) : CV → CV
  | .own t' l => if h : t = t' then .own t' (overL 0 lo (h ▸ ys) l) else .undef
  | c => c.bulk p lo t ys

def St.bulk (st : St) (p : Place) (lo : Nat) (t : Ty) (ys : List t.T) : St :=
  st.mapP fun q c => if q = p then c.bulkOwn p lo t ys else c.bulk p lo t ys

def ownAt (st : St) (p : Place) (t : Ty) : Option (List t.T) :=
  match st.atPlace p with
  | .own t' L => if h : t' = t then some (h ▸ L) else none
  | _ => none

section
variable {R : Type}

def aAssign (C : Ctx) (strict : Bool) (st : St) (o : Oper) (x : Operand) (k : St → Option R) : Option R :=
  match o.dst with
  | none => none
  | some d => match st.opdT C.P o.type x with
    | .one v => match strict with
      | true => if v.cs.all CV.isVal then st.put true d (.one v) k else none
      | false => (stealB [] v.cs st).2.put false d (.one ⟨v.agg, (stealB [] v.cs st).1⟩) k
    | .tup _ => none

/-- Cells into a variable. 'strict': nothing of the call's own lay there. -/
def St.write (strict : Bool) (st : St) (b o : Nat) (new : List CV) (k : St → Option R) : Option R :=
  match st.boxes.getD b none with
  | some (false, cs) =>
    if o + new.length ≤ cs.length then (if new.all CV.solid then (match strict with
     | true => if ((cs.drop o).take new.length).any CV.isOwn then none else k ⟨st.slots, st.boxes.modify b (Option.map fun x => (x.1, splice x.2 o new)), st.io⟩
     | false => k ⟨(st.giveUpAll (Place.isBoxFrom b o new.length)).slots,
        (st.giveUpAll (Place.isBoxFrom b o new.length)).boxes.modify b (Option.map fun x => (x.1, splice x.2 o new)), (st.giveUpAll (Place.isBoxFrom b o new.length)).io⟩) else none) else none
  | _ => none

def aStore (C : Ctx) (strict : Bool) (st : St) (T : TypeId) (a : AV) (x : AV) (k : St → Option R) : Option R :=
  match x with
  | .one v => match sizeAt C.P T with
    | some n => if v.cs.length = n then (match a with
      | .one ⟨false, [.ptr b o]⟩ => match strict with
        | true => if v.cs.all CV.isVal then st.write true b o v.cs k else none
        | false => (stealB [] v.cs st).2.write false b o (stealB [] v.cs st).1 k
      | .one ⟨false, [.va p i t e o]⟩ => match strict with
        | true => none
        | false => if v.cs.all CV.isImmV then (if o + n ≤ t.size then (match t.ofCells (splice (t.cells e) o v.cs) with
          | some y => match st.atPlace p with
            | .own t' _ => if t = t' then k (st.mapP fun q c => if q = p then c.refreshOwn p i t y else c.refresh p i t y) else none
            | _ => none
          | none => none) else none) else none
      | _ => none) else none
    | none => none
  | .tup _ => none

def St.newBox (st : St) (d : Nat) (cs : List CV) (k : St → Option R) : Option R :=
  if d < st.boxes.length && d < st.slots.length then (if !cs.all CV.solid then none else match st.boxes.getD d none with
    | none => (⟨st.slots, st.boxes.set d (some (false, cs)), st.io⟩ : St).put true d (.c (.ptr d 0)) k
    | some _ => none) else none

def aAlloc (C : Ctx) (st : St) (o : Oper) (T : TypeId) (k : St → Option R) : Option R :=
  match o.dst, ty? C.P T with
  | some d, some t => st.newBox d t.fresh k
  | _, _ => none

def aBox (C : Ctx) (st : St) (o : Oper) (T : TypeId) (x : Operand) (k : St → Option R) : Option R :=
  match o.dst, st.opdT C.P T x with
  | some d, .one v => (stealB [] v.cs st).2.newBox d (stealB [] v.cs st).1 k
  | _, _ => none

/-- What is appended. -/
def newElems (t : Ty) : AV → Option (List t.T)
  | .one ⟨false, [.sl t' l]⟩ => if h : t' = t then some (h ▸ l) else none
  | .one ⟨false, [.view _ _ _ t' l]⟩ => if h : t' = t then some (h ▸ l) else none
  | .one ⟨false, [.emp]⟩ => some []
  | .one ⟨false, [.v (.slice _ 0 _)]⟩ => some []
  | _ => none

def aAppend (C : Ctx) (st : St) (o : Oper) (T : TypeId) (T2 : TypeId) (s x : AV) (k : St → Option R) : Option R :=
  match o.dst, elemTy C.P T, C.P.underlying T2 with
  | some d, some (e, t), some (.slice _) => match bytesAt C.P e, newElems t x with
    | some b, some new => match s with
      | .one ⟨false, [.view p f lo t' l]⟩ => if h : t' = t then
          (let old := cond (decide ((l.length + new.length) * b ≤ 70368744177664)) (cond (decide (l.length + new.length ≤ 70368744177664)) ((st.giveUp p).put false d (.c (.own t ((h ▸ l) ++ new))) k) none) none
           match f, ownAt st p t with
           | false, some L => cond (decide (lo + l.length + new.length ≤ L.length)) ((st.bulk p (lo + l.length) t new).put false d (.c (.view p false lo t ((h ▸ l) ++ new))) k) old
           | _, _ => old) else none
      | .one ⟨false, [.emp]⟩ => 
          cond (decide (new.length * b ≤ 70368744177664)) (cond (decide (new.length ≤ 70368744177664)) (st.put false d (.c (.own t new)) k) none) none
      | _ => none
    | _, _ => none
  | _, _, _ => none

/-- A list is appended to the literal empty slice: nothing but a new slice. -/
def appE (C : Ctx) (T : TypeId) (T2 : TypeId) (s x : AV) (k : AV → Option R) : Option R :=
  match elemTy C.P T, C.P.underlying T2 with
  | some (e, t), some (.slice _) => match bytesAt C.P e, newElems t x with
    | some b, some new => match s with
      | .one ⟨false, [.emp]⟩ =>
          cond (decide (new.length * b ≤ 70368744177664)) (cond (decide (new.length ≤ 70368744177664)) (k (.c (.own t new))) none) none
      | _ => none
    | _, _ => none
  | _, _ => none

/-- The elements of a slice become zero. -/
def aClear (C : Ctx) (st : St) (o : Oper) (T : TypeId) (x : AV) (k : St → Option R) : Option R :=
  match elemTy C.P T, x with
  | some (_, t), .one ⟨false, [.view p _ lo t' l]⟩ => if t' = t then (match ownAt st p t with
      | some _ => (match o.dst with
        | none => k (st.bulk p lo t (List.replicate l.length t.zero))
        | some d => (st.bulk p lo t (List.replicate l.length t.zero)).put false d (.c (.v (.tuple #[]))) k)
      | none => none) else none
  | _, _ => none

/-- Elements are copied. -/
def aCopy (C : Ctx) (st : St) (o : Oper) (T T2 : TypeId) (x y : AV) (k : St → Option R) : Option R :=
  match elemTy C.P T, C.P.underlying T2, x with
  | some (_, t), some (.slice _), .one ⟨false, [.view p _ lo t' l]⟩ => if t' = t then (match newElems t y, ownAt st p t with
      | some ys, some _ => cond (decide (ys.length ≤ l.length)) (match o.dst with
        | none => k (st.bulk p lo t ys)
        | some d => (st.bulk p lo t ys).put false d (.c (.v (.int .i64 (ys.length : Nat)))) k) (match o.dst with
        | none => k (st.bulk p lo t (ys.take l.length))
        | some d => (st.bulk p lo t (ys.take l.length)).put false d (.c (.v (.int .i64 (l.length : Nat)))) k)
      | _, _ => none) else none
  | _, _, _ => none

/-- A part is cut anew, up to where its owner ends. -/
def aSliceX (C : Ctx) (st : St) (o : Oper) (T : TypeId) (x : AV) (lo hi : Option AV) (k : St → Option R) (other : Option R) : Option R :=
  match o.dst, C.P.underlying T, x, hi with
  | some d, some (.slice e), .one ⟨false, [.view p false o t _]⟩, some hi => match ty? C.P e, ownAt st p t with
    | some t', some L => if t'.size = t.size then cutAt (L.length - o) lo (some hi) fun a b => st.put false d (.c (.view p false (o + a) t (((L.drop o).take b).drop a))) k else none
    | _, _ => other
  | _, _, _, _ => other

/-! calls that write into an argument's elements -/

structure Lent where
  p : Place
  t : Ty
  l : List t.T

/-- A number, a truth value, a text. -/
def CV.isPlain : CV → Bool
  | .v (.int _ _) => true
  | .v (.bool _) => true
  | .v (.string _) => true
  | _ => false

/-- Cells whose slices are all lent whole. -/
def lentCs : List CV → Option (List Lent)
  | [] => some []
  | .view p true _ t l :: r => (lentCs r).map (⟨p, t, l⟩ :: ·)
  | c :: r => match c.isPlain with
    | true => lentCs r
    | false => none

/-- Handed over, they are the callee's own. -/
def ownCs : List CV → List CV
  | [] => []
  | .view _ _ _ t l :: r => .own t l :: ownCs r
  | c :: r => c :: ownCs r

/-- What is lent whole is handed over. -/
def ioLent : List Bool → List AV → Option (List Lent)
  | _, [] => some []
  | io, x :: r => match io.headD false with
    | true => match x with
      | .one x => match lentCs x.cs with
        | some a => (ioLent io.tail r).map (a ++ ·)
        | none => none
      | .tup _ => none
    | false => ioLent io.tail r

def isLent (ls : List Lent) (q : Place) : Bool := ls.any fun x => decide (x.p = q)

def ioVals (st : St) (bad : Place → Bool) : List Bool → List AV → List (List CV) → Option (List Val × List (List CV))
  | _, [], acc => some ([], acc)
  | io, .one x :: r, acc => match io.headD false with
    | true => match ioVals st bad io.tail r acc with
      | some (vs, acc) => some (⟨x.agg, ownCs x.cs⟩ :: vs, acc)
      | none => none
    | false => match roCs st (x.cs.map (CV.unlend bad)) acc with
      | some (cs, acc) => match ioVals st bad io.tail r acc with
        | some (l, acc) => some (⟨x.agg, cs⟩ :: l, acc)
        | none => none
      | none => none
  | _, .tup _ :: _, _ => none

def lentOk (st : St) (k : Option R) : List Lent → Option R
  | [] => k
  | x :: r => match st.atPlace x.p with
    | .own t l => if t = x.t then cond (decide (l.length = x.l.length)) (lentOk st k r) none else none
    | _ => none

def backAt : List Lent → List CV → Place → Option CV
  | x :: r, c :: cs, q => if x.p = q then some c else backAt r cs q
  | _, _, _ => none

def backOk : List Lent → List CV → Bool
  | [], [] => true
  | x :: r, .own t _ :: cs => decide (t = x.t) && t.isFlat && backOk r cs
  | _, _ => false

def Place.isSlot : Place → Bool
  | .slot _ _ _ => true
  | _ => false

/-- The call's own parameter sees what was written to what it was lent. -/
def CV.again (ls : List Lent) (cs : List CV) (q : Place) : CV → CV
  | .view p f lo t l => match isLent ls p with
    | false => .view p f lo t l
    | true => match p.isArg && f && q.isSlot, backAt ls cs p with
      | true, some (.own t' l') => if t = t' then .view p true 0 t' l' else .undef
      | _, _ => .undef
  | c => c.unlend (isLent ls)

def St.giveBack (st : St) (ls : List Lent) (cs : List CV) : St :=
  st.mapP fun q c => match c with
    | .own t l => (match backAt ls cs q with
      | some c' => c'
      | none => .own t l)
    | c => c.again ls cs q

def lentLen : List Lent → Place → Option Nat
  | [], _ => none
  | x :: r, q => if x.p = q then some x.l.length else lentLen r q

def AV.cells : AV → List CV
  | .one x => x.cs
  | .tup l => l.flatMap Val.cs

def cellsOk (ls : List Lent) (k : Option R) : List CV → Option R
  | [] => k
  | .view p true _ _ l :: r => match p.isArg with
    | true => (match lentLen ls p with
      | some n => cond (decide (l.length = n)) (cellsOk ls k r) none
      | none => cellsOk ls k r)
    | false => cellsOk ls k r
  | _ :: r => cellsOk ls k r

def argViewsOk (ls : List Lent) (k : Option R) : List AV → Option R
  | [] => k
  | a :: r => cellsOk ls (argViewsOk ls k r) a.cells

/-- Taken for good. -/
def CV.isUndef : CV → Bool
  | .undef => true
  | _ => false

def distinct : List Lent → Bool
  | [] => true
  | x :: r => !isLent r x.p && distinct r

def aCallIO (C : Ctx) (st : St) (o : Oper) (f : AV) (args : List AV) (k : St → Option R) : Option R :=
  match f, o.dst with
  | .one ⟨false, [.fn f []]⟩, some d => match C.ρ f with
    | some c => match c.rw, ioLent c.io args with
      | false, some ls => match ioVals (st.giveUpAll (isLent ls)) (isLent ls) c.io args [] with
        | some (vs, bs) => if distinct ls then lentOk st ((c.G bs vs).bind fun x => c.alt x fun x =>
            (if (c.enc x).1.all CV.isFresh && backOk ls (c.enc x).2 then argViewsOk ls ((st.giveBack ls (c.enc x).2).put false d (c.enc x).1 k) st.slots
             else if (c.enc x).1.all CV.isFresh && (c.enc x).2.all CV.isUndef then (st.giveUpAll (isLent ls)).put false d (c.enc x).1 k else none)) ls else none
        | none => none
      | _, _ => none
    | none => none
  | _, _ => none

def isIO (C : Ctx) : Operand → Bool
  | .func f => match C.ρ f with
    | some c => c.io.any id || c.rw
    | none => false
  | _ => false

/-- A pointer that a call hands over with its variable; the variable's cells. -/
def Val.np? : Val → Option (List CV)
  | ⟨false, [.np cs]⟩ => some cs
  | _ => none

def npVals (d : Nat) : List Val → Option (List CV × List Val)
  | [] => none
  | x :: r => match x.np? with
    | some cs => some (cs, ⟨false, [.ptr d 0]⟩ :: r)
    | none => (npVals d r).map fun y => (y.1, x :: y.2)

def AV.npLand (d : Nat) : AV → Option (List CV × AV)
  | .one x => x.np?.map fun cs => (cs, .c (.ptr d 0))
  | .tup l => (npVals d l).map fun y => (y.1, .tup y.2)

/-- A call's result; a variable that comes with it becomes the call's own. -/
def St.putN (st : St) (d : Nat) (a : AV) (k : St → Option R) : Option R :=
  match a.npLand d with
  | none => st.put false d a k
  | some (cs, a) => match decide (d < st.slots.length), st.boxes[d]? with
    | true, some none => (⟨st.slots, st.boxes.set d (some (false, cs)), st.io⟩ : St).put false d a k
    | _, _ => none

/-! calls that write into variables -/

def ptrsCs : List CV → List Nat
  | [] => []
  | .ptr b _ :: r => b :: ptrsCs r
  | .fn _ caps :: r => caps.map Prod.fst ++ ptrsCs r
  | _ :: r => ptrsCs r

def ptrsOf : List AV → List Nat
  | [] => []
  | .one x :: r => ptrsCs x.cs ++ ptrsOf r
  | .tup _ :: r => ptrsOf r

def renum : Nat → List (Nat × Nat) → List (Nat × Nat)
  | _, [] => []
  | n, c :: r => (n, c.2) :: renum (n + 1) r

/-- Told to a callee: the variables by their numbers. -/
def numCs : Nat → List CV → Option (List CV)
  | _, [] => some []
  | n, .ptr _ o :: r => (numCs (n + 1) r).map (.ptr n o :: ·)
  | n, .fn f caps :: r => (numCs (n + caps.length) r).map (.fn f (renum n caps) :: ·)
  | n, c :: r => match c.isImm with
    | true => (numCs n r).map (c :: ·)
    | false => none

def numVals : Nat → List AV → Option (List Val)
  | _, [] => some []
  | n, .one x :: r => (numCs n x.cs).bind fun cs => (numVals (n + (ptrsCs x.cs).length) r).map (⟨x.agg, cs⟩ :: ·)
  | _, .tup _ :: _ => none

/-- The variables themselves. -/
def boxesB (st : St) : List Nat → Option (List (List CV))
  | [] => some []
  | b :: r => match st.boxes[b]? with
    | some (some (false, cs)) => if cs.all CV.isFlat then (boxesB st r).map (cs :: ·) else none
    | _ => none

def distinctN : List Nat → Bool
  | [] => true
  | b :: r => !r.contains b && distinctN r

def Place.inBoxes (bl : List Nat) : Place → Bool
  | .cell b _ => bl.contains b
  | _ => false

def St.refill : St → List Nat → List (List CV) → St
  | st, b :: r, cs :: css => St.refill ⟨st.slots, st.boxes.set b (some (false, cs)), st.io⟩ r css
  | st, _, _ => st

def lens (l : List (List CV)) : List Nat := l.map List.length

/-- What goes on behind the call, in the state that it leaves. -/
def St.back (st : St) (o : Oper) (a : AV) (k : St → Option R) : Option R :=
  match o.dst with
  | some d => st.putN d a k
  | none => k st

def aCallB (C : Ctx) (st : St) (o : Oper) (f : AV) (args : List AV) (k : St → Option R) : Option R :=
  match f with
  | .one ⟨false, [.fn f caps]⟩ => match C.ρ f with
    | some c => match c.rw, numVals 0 (args ++ caps.map fun x => .c (.ptr x.1 x.2)), boxesB st (ptrsOf (args ++ caps.map fun x => .c (.ptr x.1 x.2))) with
      | true, some vs, some bs => if distinctN (ptrsOf (args ++ caps.map fun x => .c (.ptr x.1 x.2))) then (c.G bs vs).bind fun x => c.alt x fun x =>
          if (c.enc x).1.all CV.isFlatN && lens (c.encB x) == lens bs then
            ((st.giveUpAll (Place.inBoxes (ptrsOf (args ++ caps.map fun x => .c (.ptr x.1 x.2))))).refill (ptrsOf (args ++ caps.map fun x => .c (.ptr x.1 x.2))) (c.encB x)).back o (c.enc x).1 k
          else none else none
      | _, _, _ => none
    | none => none
  | _ => none

def isRW (C : Ctx) : AV → Bool
  | .one ⟨false, [.fn f _]⟩ => match C.ρ f with
    | some c => c.rw
    | none => false
  | _ => false

def pureStep (C : Ctx) (strict : Bool) (st : St) (o : Oper) (k : St → Option R) : Option R :=
  aop C st o fun a => match o.dst with
    | some d => match strict with
      | true => st.put true d a k
      | false => st.putN d a k
    | none => k st

/-- One operation. -/
def step (C : Ctx) (strict : Bool) (st : St) (o : Oper) (k : St → Option R) : Option R :=
  match o.op with
  | .assign x => aAssign C strict st o x k
  | .store T a x => match o.dst with
    | none => match strict, isVa (st.opd a), (st.opdT C.P T x).held with
      | false, true, p :: r => aStore C false (st.freezeAll (p :: r)) T ((st.opd a).frozeAll (p :: r)) ((st.opdT C.P T x).frozeAll (p :: r)) k
      | _, _, _ => aStore C strict st T (st.opd a) (st.opdT C.P T x) k
    | some _ => none
  | .buildSlice T n ps => match strict, ps.toList.flatMap fun p => (st.opd p.2).held with
    | false, p :: r => aBuildSlice C.P T n (ps.toList.map fun x => (x.1, ((st.opd x.2).frozeAll (p :: r)).map CV.tidy)) fun a => match o.dst with
      | some d => (st.freezeAll (p :: r)).put false d a k
      | none => none
    | _, _ => pureStep C strict st o k
  | .alloc T => aAlloc C st o T k
  | .box T x => aBox C st o T x k
  | .slice T x lo hi mx => match strict, mx with
    | false, none => aSliceX C st o T (st.opd x) (lo.map st.opd) (hi.map st.opd) k (pureStep C false st o k)
    | _, _ => pureStep C strict st o k
  | .call c => match c.callee with
    | .builtin .append => match c.args.toList, c.argTypes.toList with
      | [s, x], [T, T2] => match strict with
        | true => (match o.dst with
          | some d => appE C T T2 (st.opdT C.P T s) (st.opdT C.P T2 x) fun v => st.put true d v k
          | none => none)
        | false => aAppend C st o T T2 (st.opdT C.P T s) (st.opdT C.P T2 x) k
      | _, _ => none
    | .builtin .clear => match c.args.toList, c.argTypes.toList with
      | [x], [T] => aClear C st o T (st.opd x) k
      | _, _ => none
    | .builtin .copy => match c.args.toList, c.argTypes.toList with
      | [x, y], [T, T2] => aCopy C st o T T2 (st.opd x) (st.opdT C.P T2 y) k
      | _, _ => none
    | .value f => match isRW C (st.opd f), strict with
      | true, false => aCallB C (st.freezeAll ((st.argAVs C.P c.args.toList c.argTypes.toList).flatMap AV.held)) o ((st.opd f).frozeAll ((st.argAVs C.P c.args.toList c.argTypes.toList).flatMap AV.held))
          ((st.argAVs C.P c.args.toList c.argTypes.toList).map fun a => a.frozeAll ((st.argAVs C.P c.args.toList c.argTypes.toList).flatMap AV.held)) k
      | _, _ => if isIO C f then aCallIO C st o (st.opd f) (st.argAVs C.P c.args.toList c.argTypes.toList) k else pureStep C strict st o k
    | _ => pureStep C strict st o k
  | _ => pureStep C strict st o k

/-- A test: both ways, with what it said known. -/
def St.test (st : St) (x : Operand) (k : Bool → St → Option R) : Option R :=
  match x, st.opd x with
  | .tmp d, .one ⟨false, [.v (.bool b)]⟩ => cond b (k true (st.set d (.c (.v (.bool true))))) (k false (st.set d (.c (.v (.bool false)))))
  | .const (.bool b), _ => k b st
  | _, _ => none

/-- What a temporary holds whose operation was passed over. -/
abbrev AV.skip : AV := .c (.v (.tuple #[]))

def AV.isSkip : AV → Bool
  | .one ⟨false, [.v (.tuple _)]⟩ => true
  | _ => false

/-- An operation is passed over. -/
def passOver (strict : Bool) (o : Oper) (st : St) (k : St → Option R) : Option R :=
  match o.dst with
  | some d => st.put strict d .skip k
  | none => k st

def isApp (o : Oper) : Bool :=
  match o.op with
  | .call c => (match c.callee with | .builtin .append => true | _ => false)
  | _ => false

def isTmp (x : Operand) (d : Nat) : Bool :=
  match x with
  | .tmp t => t == d
  | _ => false

/-- A literal without elements, to which the same region appends. -/
def litApp (ops : Array Oper) (o : Oper) : Bool :=
  match o.op, o.dst with
  | .buildSlice _ 0 _, some d => ops.toList.any fun q => isApp q && (match q.op with
    | .call c => (match c.args.toList with | x :: _ => isTmp x d | [] => false)
    | _ => false)
  | _, _ => false

/-- It is an empty slice and nothing else. -/
def litStep (C : Ctx) (st : St) (o : Oper) (k : St → Option R) : Option R :=
  match o.op, o.dst with
  | .buildSlice _ 0 _, some d => aop C st o fun _ => st.put true d (.c .emp) k
  | _, _ => none

def runOp (C : Ctx) (strict : Bool) (ops : Array Oper) (o : Oper) (st : St) (k : St → Option R) : Option R :=
  match o.guard with
  | none => match strict && litApp ops o with
    | true => litStep C st o k
    | false => step C strict st o k
  | some (j, want) => match (ops[j]?).bind (·.dst) with
    | some d => match (st.get d).isSkip with
      | true => passOver strict o st k
      | false => st.test (.tmp d) fun b st => if b = want then step C strict st o k else passOver strict o st k
    | none => none

def runOps (C : Ctx) (strict : Bool) (ops : Array Oper) : List Oper → St → (St → Option R) → Option R
  | [], st, k => k st
  | o :: r, st, k => runOp C strict ops o st fun st => runOps C strict ops r st k

inductive Ex where
  | normal | exit (id : Nat) | ret

abbrev Box := Option (Bool × List CV)

/-- What a loop hands from round to round: the values of some slots and variables. -/
abbrev Live := List AV × List Box × List CV

def Place.lives (s b : List Nat) : Place → Bool
  | .arg _ => true
  | .slot i _ _ => s.contains i
  | .cell i _ => b.contains i

def CV.keep (s b : List Nat) : CV → CV
  | .view p f lo t x => if p.lives s b then .view p f lo t x else .undef
  | .va p n t x o => if p.lives s b then .va p n t x o else .undef
  | .ptr i o => if b.contains i then .ptr i o else .undef
  | .fn f caps => if caps.all fun c => b.contains c.1 then .fn f caps else .undef
  | c => c

def St.live (st : St) (s b : List Nat) : Live :=
  (s.map fun i => (st.get i).map (CV.keep s b), b.map (fun i => (st.boxes.getD i none).map fun x => (x.1, x.2.map (CV.keep s b))), st.io.map (CV.keep s b))

def setAll {α : Type} : List Nat → List α → List α → List α
  | i :: r, x :: xs, l => setAll r xs (l.set i x)
  | _, _, l => l

/-- How many slots, how many variables. -/
structure Dim where
  n : Nat
  m : Nat

def Dim.back (d : Dim) (s b : List Nat) (x : Live) : St :=
  ⟨setAll s x.1 (List.replicate d.n .undef), setAll b x.2.1 (List.replicate d.m none), x.2.2⟩

/-- Which slots and variables live at a loop's head, and which behind it. -/
structure LoopHint where
  s : List Nat
  b : List Nat
  s' : List Nat
  b' : List Nat

def loopN (d : Dim) (h : LoopHint) (body : St → (Ex → St → Option R) → Option R) : Nat → Live → (Ex → Live → Option R) → Option R
  | 0, _, _ => none
  | n + 1, x, k => body (d.back h.s h.b x) fun e st => match e with
    | .normal => loopN d h body n (st.live h.s h.b) k
    | e => k e (st.live h.s' h.b')

/-- The number of the first region: it names a loop. -/
noncomputable def key (c : Code) : Nat :=
  Code.rec (motive := fun _ => Nat) 0 (fun id _ _ => id + 1) (fun _ _ a b => if a = 0 then b else a) (fun _ _ _ a b => if a = 0 then b else a)
    (fun _ _ a => a) (fun _ a => a) (fun _ _ _ _ _ _ => 0) (fun _ => 0) (fun _ a => a) (fun _ => 0) (fun _ => 0) 0 (fun _ => 0) c

/-- The number of what follows in a sequence (a rest that is told by its name). -/
noncomputable def jkey (c : Code) : Nat := key c + 1000000

/-- The rest of a sequence whose first region is 'id'. -/
noncomputable def restAt (id : Nat) : Code → Option Code
  | .seq a b => match Nat.beq (key b) id with
    | true => some b
    | false => match restAt id a with
      | some c => some c
      | none => restAt id b
  | .cond _ a b => match restAt id a with
    | some c => some c
    | none => restAt id b
  | .block _ a => restAt id a
  | .loop a => restAt id a
  | _ => none

/-- The loop whose body's first region is 'id'. -/
noncomputable def loopAt (id : Nat) : Code → Option Code
  | .seq a b => match loopAt id a with
    | some c => some c
    | none => loopAt id b
  | .cond _ a b => match loopAt id a with
    | some c => some c
    | none => loopAt id b
  | .block _ a => loopAt id a
  | .loop a => if key a = id + 1 then some a else loopAt id a
  | .scope a => loopAt id a
  | _ => none

noncomputable def restOf (f : Func) (id : Nat) : Code :=
  match f.body with
  | some c => match restAt id c with
    | some b => b
    | none => .skip
  | none => .skip

noncomputable def loopOf (f : Func) (id : Nat) : Code :=
  match f.body with
  | some c => match loopAt id c with
    | some a => a
    | none => .skip
  | none => .skip

/-- 'loop': what lives at a loop (by the number of its first region); 'sum': what is already known of it. -/
structure Hints (R : Type) where
  loop : Nat → LoopHint
  sum : Nat → Option (Live → (Ex → Live → Option R) → Option R)

/-! regions whose order the machine draws -/

def scalarT (P : Program) (T : TypeId) : Bool :=
  match P.underlying T with
  | some (.int _) => true | some .bool => true | some .string => true
  | _ => false

inductive Cls where
  | pure | alloc | store | other
  deriving DecidableEq

def cls (C : Ctx) (o : Oper) : Cls :=
  match o.op with
  | .assign _ => if scalarT C.P o.type then .pure else .other
  | .store _ _ _ => .store
  | .alloc _ => .alloc
  | .box _ _ => .other
  | .call c => match c.callee with
    | .builtin .len | .builtin .cap | .builtin .max | .builtin .min | .builtin .append => .pure
    | .value f => if isIO C f then .other else .pure
    | _ => .other
  | _ => .pure

def tmpsOf (ops : Array Oper) (o : Oper) : List Tmp :=
  (o.op.operands.toList.filterMap fun | .tmp t => some t | _ => none) ++
  (match o.guard with | some (j, _) => ((ops[j]?).bind (·.dst)).toList | none => [])

/-- 'i' looks at slots alone, at no variable. -/
def slotOnly (o : Oper) : Bool :=
  match o.op with
  | .move _ | .binOp .. | .unOp .. | .extract .. | .convert .. | .pick .. => true
  | _ => false

def apart (ops : Array Oper) (a b : Oper) : Bool :=
  (match a.dst with | some d => !(tmpsOf ops b).contains d && b.dst != some d | none => true) &&
  (match b.dst with | some d => !(tmpsOf ops a).contains d | none => true)

/-- May the later 'b' be carried out ahead of the earlier 'a'? -/
def mayPass (C : Ctx) (ops : Array Oper) (a b : Oper) : Bool :=
  apart ops a b && match cls C a, cls C b with
    | .pure, .pure => true
    | .pure, .alloc => true
    | .alloc, .alloc => true
    | .pure, .store => slotOnly a
    | _, _ => false

/-- Must 'o' wait for 'j'? -/
def edge (o : Oper) (j : Nat) : Bool := o.after.any fun e => e.on == j && Region.binds .any e

/-- The last operation, where it comes behind each other one. -/
def lastAlone (ops : Array Oper) (i : Nat) : Bool :=
  Nat.beq (i + 1) ops.size && (match ops[i]? with
    | some o => (List.range i).all fun j => edge o j
    | none => false)

/-- Looks at slots alone, whatever the memory holds. -/
def quiet (p : Oper) : Bool :=
  p.guard.isNone && p.dst.isSome && (match p.op with
    | .extract _ _ | .move _ => true
    | .binOp .add _ _ _ _ | .binOp .sub _ _ _ _ => true
    | _ => false)

def isPut (o : Oper) : Bool :=
  o.guard.isNone && (match o.op with
    | .assign _ => o.dst.isSome
    | .store _ _ _ => o.dst.isNone
    | .call c => (match c.callee with
      | .builtin .copy => true
      | _ => false)
    | _ => false)

def keepsOff (d : Option Tmp) (o : Oper) : Bool :=
  match d with
  | some d => o.op.operands.toList.all fun x => !isTmp x d
  | none => true

def insAll (s l : List Nat) : List Nat := l.foldl (fun s x => if s.contains x then s else x :: s) s

/-- Numbers of what must have been carried out ahead of each. -/
def aheads (ops : List Oper) : List (List Nat) :=
  ops.foldl (fun acc o => acc ++ [(o.after.toList.filter fun e => Region.binds .any e).foldl (fun s e => insAll s (e.on :: acc.getD e.on [])) []]) []

/-- An assignment or a store 'i' that may be carried out ahead of the quiet 'j': all that comes behind 'i' waits for 'j'. -/
def passX (ops : Array Oper) (ah : List (List Nat)) (j i : Nat) : Bool :=
  match ops[j]?, ops[i]? with
  | some p, some o => quiet p && isPut o && keepsOff o.dst p && keepsOff p.dst o && p.dst != o.dst &&
    (List.range ops.size).all fun k => Nat.ble k i || (ah.getD k []).contains j
  | _, _ => false

/-- Fills its own slot, whatever else. -/
def calm (C : Ctx) (p : Oper) : Bool :=
  p.guard.isNone && p.dst.isSome && (match p.op with | .select _ _ => false | _ => true) && !isApp p && (match cls C p with | .pure => true | _ => false)

/-- An assignment that may move what is the call's own. -/
def isAsg (C : Ctx) (o : Oper) : Bool :=
  o.guard.isNone && o.dst.isSome && (match o.op with | .assign _ => true | _ => false) && (match cls C o with | .other => true | _ => false)

/-- An assignment 'i' that may be carried out ahead of the calm 'j': what comes behind 'i' waits for 'j', or is an assignment that waits for 'i'. -/
def passC (C : Ctx) (ops : Array Oper) (ah : List (List Nat)) (j i : Nat) : Bool :=
  match ops[j]?, ops[i]? with
  | some p, some o => calm C p && isAsg C o && keepsOff o.dst p && keepsOff p.dst o && p.dst != o.dst &&
    (List.range ops.size).all fun k => Nat.ble k i || (ah.getD k []).contains j || (match ops[k]? with
      | some q => isAsg C q && (ah.getD k []).contains i && keepsOff o.dst q && o.dst != q.dst
      | none => false)
  | _, _ => false

def chainy (C : Ctx) (ops : Array Oper) (i : Nat) : Bool :=
  match ops[i]? with
  | some o => isAsg C o && (List.range i).all fun j => ((aheads ops.toList).getD i []).contains j || passC C ops (aheads ops.toList) j i
  | none => false

/-- A pointer's check, or where its field lies: looks at one slot alone. -/
def ptOp (q : Oper) : Bool :=
  q.guard.isNone && q.dst.isSome && (match q.op with
    | .nilCheck (.tmp _) => true
    | .fieldAddr _ (.tmp _) _ => true
    | _ => false)

def lateAt (ops : Array Oper) (o : Oper) (k : Nat) : Bool :=
  o.guard.isNone && (match ops[k]? with
    | some q => ptOp q
    | none => false)

/-- What one slot holds goes to another one: from, to. -/
def mvOp (q : Oper) : Option (Nat × Nat) :=
  match q.guard, q.dst, q.op with
  | none, some d, .move (.tmp t) => some (t, d)
  | _, _, _ => none

/-- A pointer 'j' that an append 'i' may pass. -/
def earlyAt (ops : Array Oper) (o : Oper) (j : Nat) : Bool :=
  o.guard.isNone && (match ops[j]? with
    | some q => (mvOp q).isSome && apart ops q o && (List.range ops.size).all fun k => Nat.beq k j || (match ops[k]? with
      | some z => z.dst != q.dst
      | none => true)
    | none => false)

def CV.isPt : CV → Bool
  | .ptr _ _ => true
  | .gp _ _ => true
  | .ea _ _ _ => true
  | .v _ => true
  | _ => false

def AV.isPt : AV → Bool
  | .one ⟨false, [c]⟩ => c.isPt
  | _ => false

/-- Pointers that may be looked at ahead of an append, and those that it may pass: their slots have nothing to do with it. -/
def lateOk (ops : Array Oper) (ah : List Nat) (i : Nat) (o : Oper) (st : St) : Bool :=
  (ops.toList.all fun q => !ptOp q || (match q.dst with
    | some d => !(st.get d).hasOwn && o.op.operands.toList.all fun x => (st.opd x).all (CV.avoids d)
    | none => false)) &&
  (List.range i).all fun j => ah.contains j || (match (ops[j]?).bind mvOp with
    | some (t, d) => (ops.toList.all fun q => !ptOp q || q.dst != some d) && (st.get d).isPt && o.op.operands.toList.all fun x => (st.opd x).all (CV.avoids d) && (st.opd x).all (CV.avoids t)
    | none => false)

/-- An operation that nothing can overtake, but for what is quiet. -/
def loose (C : Ctx) (ops : Array Oper) (i : Nat) : Bool :=
  lastAlone ops i || chainy C ops i || (match ops[i]? with
    | some o => (match cls C o with
      | .store | .other => (List.range i).all fun j => ((aheads ops.toList).getD i []).contains j || passX ops (aheads ops.toList) j i
      | .pure => isApp o && ((List.range ops.size).all fun k => Nat.ble k i || ((aheads ops.toList).getD k []).contains i || lateAt ops o k) && (List.range i).all fun j => ((aheads ops.toList).getD i []).contains j || earlyAt ops o j
      | _ => false)
    | none => false)

/-- Operations by their numbers. -/
def runIx (C : Ctx) (ops : Array Oper) : List Nat → St → (St → Option R) → Option R
  | [], st, k => k st
  | i :: r, st, k => match ops[i]? with
    | some o => cond (!loose C ops i || !isApp o || lateOk ops ((aheads ops.toList).getD i []) i o st) (runOp C (!loose C ops i) ops o st fun st => runIx C ops r st k) none
    | none => runIx C ops r st k


def drawOk (C : Ctx) (ops : Array Oper) : Bool :=
  let ah := aheads ops.toList
  ((List.range ops.size).all fun i => (ops[i]?).all fun o => o.after.all fun e => !Region.binds .any e || decide (e.on < i)) &&
  (List.range ops.size).all fun i => (List.range i).all fun j =>
    (ah.getD i []).contains j || (match ops[j]?, ops[i]? with
      | some a, some b => loose C ops i || mayPass C ops a b
      | _, _ => false)

/-! drawn regions with calls that write into variables -/

def isCallB (C : Ctx) (o : Oper) : Bool :=
  match o.op with
  | .call c => match c.callee with
    | .value (.func f) => (match C.ρ f with
      | some c => c.rw
      | none => false)
    | _ => false
  | _ => false

def argsB (C : Ctx) (st : St) (o : Oper) : List AV :=
  match o.op with
  | .call c => st.argAVs C.P c.args.toList c.argTypes.toList
  | _ => []

def plB (C : Ctx) (st : St) (o : Oper) : List Place := (argsB C st o).flatMap AV.held

def argsF (C : Ctx) (st : St) (o : Oper) : List AV := (argsB C st o).map fun a => a.frozeAll (plB C st o)

/-- Speaks of nothing that lies in these variables, nor of what is frozen. -/
def CV.stable (pl : List Place) (bl : List Nat) : CV → Bool
  | .view p _ _ _ _ => !p.inBoxes bl && !pl.contains p
  | .va p _ _ _ _ => !p.inBoxes bl && !pl.contains p
  | .own _ _ => pl.isEmpty
  | _ => true

def boxesStable (pl : List Place) (bl : List Nat) : Nat → List Box → Bool
  | _, [] => true
  | b, x :: r => (bl.contains b || (match x with
    | some (_, cs) => cs.all fun c => c.isOwn || c.stable pl bl
    | none => true)) && boxesStable pl bl (b + 1) r

def hideB (bl : List Nat) : Nat → List Box → List Box
  | _, [] => []
  | b, x :: r => (match bl.contains b with
    | true => none
    | false => x) :: hideB bl (b + 1) r

def St.hide (bl : List Nat) (st : St) : St := ⟨st.slots, hideB bl 0 st.boxes, st.io⟩

/-- What was carried out ahead of a call gives the same behind it. -/
def readerOk (C : Ctx) (ops : Array Oper) (pl : List Place) (bl : List Nat) (st : St) (p : Oper) : Bool :=
  (tmpsOf ops p).all (fun t => (st.get t).all (CV.stable pl bl)) && (match p.dst with
    | some d => (st.get d).all (CV.stable pl bl)
    | none => false) && (runOp C true ops p (st.hide bl) some).isSome

def floatOk (C : Ctx) (ops : Array Oper) (i : Nat) (o : Oper) (st : St) : Bool :=
  let ah := aheads ops.toList
  (plB C st o).all Place.isSlot && (match o.dst with
    | some d => !(st.get d).hasOwn
    | none => true) && boxesStable (plB C st o) (ptrsOf (argsF C st o)) 0 st.boxes &&
  (List.range ops.size).all fun j => Nat.beq j i || (ah.getD i []).contains j || (ah.getD j []).contains i || (match ops[j]? with
    | some p => readerOk C ops (plB C st o) (ptrsOf (argsF C st o)) st p
    | none => true)

/-- Ordered with all others. -/
def barrierF (ops : Array Oper) (i : Nat) : Bool :=
  let ah := aheads ops.toList
  (List.range ops.size).all fun j => Nat.beq j i || (ah.getD i []).contains j || (ah.getD j []).contains i

def runIxF (C : Ctx) (ops : Array Oper) : List Nat → St → (St → Option R) → Option R
  | [], st, k => k st
  | i :: r, st, k => match ops[i]? with
    | some o => (match isCallB C o with
      | true => cond (floatOk C ops i o st) (runOp C false ops o st fun st => runIxF C ops r st k) none
      | false => runOp C (!barrierF ops i) ops o st fun st => runIxF C ops r st k)
    | none => runIxF C ops r st k

def nextF (C : Ctx) (ops : Array Oper) (ah : List (List Nat)) (rest : List Nat) : Option Nat :=
  match rest.find? fun i => (match ops[i]? with
    | some o => !isCallB C o
    | none => false) && (ah.getD i []).all fun j => !rest.contains j with
  | some i => some i
  | none => rest.find? fun i => (ah.getD i []).all fun j => !rest.contains j

/-- Calls as late as possible. -/
def orderF (C : Ctx) (ops : Array Oper) (ah : List (List Nat)) : Nat → List Nat → List Nat
  | 0, _ => []
  | n + 1, rest => match nextF C ops ah rest with
    | some i => i :: orderF C ops ah n (rest.filter fun j => !Nat.beq j i)
    | none => []

def readerF (C : Ctx) (ops : Array Oper) (p : Oper) : Bool :=
  p.guard.isNone && (match cls C p with | .pure => true | _ => false) && (match p.dst with
    | some d => !(tmpsOf ops p).contains d
    | none => false)

def antiOk (ops : Array Oper) (p o : Oper) : Bool :=
  match o.dst with
  | some d => !(tmpsOf ops p).contains d && p.dst != some d
  | none => true

def pairF (C : Ctx) (ops : Array Oper) (ah : List (List Nat)) (a b : Nat) : Bool :=
  !(ah.getD a []).contains b && (match ops[a]?, ops[b]? with
    | some p, some o => antiOk ops p o && ((ah.getD b []).contains a || mayPass C ops p o || (isCallB C o && o.guard.isNone && readerF C ops p && apart ops p o))
    | _, _ => false)

def pairsF (C : Ctx) (ops : Array Oper) (ah : List (List Nat)) : List Nat → Bool
  | [] => true
  | a :: r => (r.all fun b => pairF C ops ah a b) && pairsF C ops ah r

def drawOkF (C : Ctx) (ops : Array Oper) (ord : List Nat) : Bool :=
  ((List.range ops.size).all fun i => (ops[i]?).all fun o => o.after.all fun e => !Region.binds .any e || decide (e.on < i)) &&
  ((List.range ops.size).all fun i => ord.contains i) && distinctN ord && (ord.all fun i => decide (i < ops.size)) && pairsF C ops (aheads ops.toList) ord

def ordF (C : Ctx) (ops : Array Oper) : List Nat := orderF C ops (aheads ops.toList) ops.size (List.range ops.size)

noncomputable def den (C : Ctx) (d : Dim) (h : Hints R) (fuel : Nat) (c : Code) : St → (Ex → St → Option R) → Option R :=
  Code.rec (motive := fun _ => St → (Ex → St → Option R) → Option R)
    (fun st k => k .normal st)
    (fun _ ops draw st k => match draw with
      | false => runOps C false ops ops.toList st (k .normal)
      | true => match drawOk C ops with
        | true => runIx C ops (List.range ops.size) st (k .normal)
        | false => match drawOkF C ops (ordF C ops) with
          | true => runIxF C ops (ordF C ops) st (k .normal)
          | false => none)
    (fun _ y a b st k => a st fun e st => match e with
      | .normal => (match h.sum (jkey y) with
        | some s => s (st.live (h.loop (jkey y)).s (h.loop (jkey y)).b) (fun e x => k e (d.back (h.loop (jkey y)).s' (h.loop (jkey y)).b' x))
        | none => b st k)
      | e => k e st)
    (fun c _ _ a b st k => st.test c fun t st => match t with
      | true => a st k
      | false => b st k)
    (fun id _ a st k => a st fun e st => match e with
      | .exit j => if j = id then k .normal st else k (.exit j) st
      | e => k e st)
    (fun body a st k =>
      let lh := h.loop (key body)
      let k' : Ex → Live → Option R := fun e x => k e (d.back lh.s' lh.b' x)
      match h.sum (key body) with
      | some s => s (st.live lh.s lh.b) k'
      | none => loopN d lh a fuel (st.live lh.s lh.b) k')
    (fun _ _ _ _ _ _ _ _ => none)
    (fun id st k => k (.exit id) st)
    (fun _ _ _ _ => none)
    (fun _ st k => k .normal st)
    (fun _ _ _ => none)
    (fun st k => k .ret st)
    (fun _ _ _ => none) c

/-! functions -/

def shiftPtr (n : Nat) : CV → CV
  | .ptr b o => .ptr (n + b) o
  | .fn f caps => .fn f (caps.map fun c => (n + c.1, c.2))
  | c => c

/-- The slices are lent, each by its number. -/
def lendsO (p : Nat → Place) : Nat → List CV → List CV
  | _, [] => []
  | i, .own t l :: r => .view (p i) true 0 t l :: lendsO p (i + 1) r
  | i, c :: r => c :: lendsO p i r

def ownsOf : List CV → List CV
  | [] => []
  | .own t l :: r => .own t l :: ownsOf r
  | _ :: r => ownsOf r

/-- What is handed over to be written to stays the caller's; its slot has it lent. -/
def splitIO : List Bool → Nat → List Val → List Val × List CV
  | _, _, [] => ([], [])
  | io, j, x :: r => match io.headD false with
    | true => (⟨x.agg, lendsO .arg j x.cs⟩ :: (splitIO io.tail (j + (ownsOf x.cs).length) r).1, ownsOf x.cs ++ (splitIO io.tail (j + (ownsOf x.cs).length) r).2)
    | false => (x :: (splitIO io.tail j r).1, (splitIO io.tail j r).2)

def ioOk : List Bool → List Val → Bool
  | _, [] => true
  | io, x :: r => (match io.headD false with
    | true => x.cs.all fun c => c.isOwn || c.isPlain
    | false => true) && ioOk io.tail r

def initSt (f : Func) (io : List Bool) (bs : List (List CV)) (vs : List Val) : St :=
  ⟨(splitIO io 0 vs).1.map (fun x => .one (x.map (shiftPtr f.ntmps))) ++ List.replicate (f.ntmps - vs.length) .undef,
   List.replicate f.ntmps none ++ bs.map fun b => some (true, b), (splitIO io 0 vs).2⟩

def resAV (C : Ctx) (st : St) : ResultVar → Option AV
  | .tmp i => some (st.opd (.tmp i))
  | .cell a T => aLoad C st T (st.opd (.tmp a)) some

/-- Of a result only what can be handed over is told. -/
def CV.resC (c : CV) : CV :=
  match c.isFlatN with
  | true => c
  | false => .undef

def CV.resC0 (c : CV) : CV :=
  match c.isFlat with
  | true => c
  | false => .undef

def St.dropBox (st : St) (b : Nat) : St :=
  (⟨st.slots.length, st.boxes.length⟩ : Dim).back (List.range st.slots.length) ((List.range st.boxes.length).filter (· != b))
    (st.live (List.range st.slots.length) ((List.range st.boxes.length).filter (· != b)))

/-- A pointer to a variable of the call's own is handed over with the variable. -/
def ptrRes (n : Nat) (st : St) : Val → Option (List CV × St)
  | ⟨false, [.ptr b 0]⟩ => match decide (b < n), st.boxes[b]? with
    | true, some (some (false, cs)) => some ((steal [] (lends (.cell b) 0 cs) st).1.map CV.resC0, (steal [] (lends (.cell b) 0 cs) st).2.dropBox b)
    | _, _ => none
  | _ => none

def resultsOf (C : Ctx) (n : Nat) : List ResultVar → St → Option (List Val × St)
  | [], st => some ([], st)
  | rv :: r, st => match resAV C st rv with
    | some (.one x) => match ptrRes n st x with
      | some (cs, st) => match resultsOf C n r st with
        | some (l, st') => some (⟨false, [.np cs]⟩ :: l, st')
        | none => none
      | none => match resultsOf C n r (steal [] x.cs st).2 with
        | some (l, st') => some (⟨x.agg, (steal [] x.cs st).1.map CV.resC⟩ :: l, st')
        | none => none
    | _ => none

def resAll (l : List Val) : AV := match l with | [x] => .one x | l => .tup l

def finish (C : Ctx) (f : Func) (st : St) (k : AV → List CV → Option R) : Option R :=
  match resultsOf C f.ntmps f.results.toList st with
  | some (l, st) => k (resAll l) (steal [] (lends .arg 0 st.io) st).1
  | none => none

/-- What the variables hold that were lent to be written to. -/
def rwOf : List Nat → St → Option (List (List CV))
  | [], _ => some []
  | b :: r, st => match st.boxes[b]? with
    | some (some (false, cs)) => (rwOf r (steal [] (lends (.cell b) 0 cs) st).2).map ((steal [] (lends (.cell b) 0 cs) st).1.map CV.resC0 :: ·)
    | _ => none

def lentBoxes (n : Nat) : Nat → List Nat
  | 0 => []
  | k + 1 => n :: lentBoxes (n + 1) k

def finishB (C : Ctx) (f : Func) (nb : Nat) (st : St) (k : AV → List (List CV) → Option R) : Option R :=
  match resultsOf C f.ntmps f.results.toList st with
  | some (l, st) => match rwOf (lentBoxes f.ntmps nb) st with
    | some css => k (resAll l) css
    | none => none
  | none => none

def initStB (f : Func) (bs : List (List CV)) (vs : List Val) : St :=
  ⟨vs.map (fun x => .one (x.map (shiftPtr f.ntmps))) ++ List.replicate (f.ntmps - vs.length) .undef,
   List.replicate f.ntmps none ++ bs.map fun b => some (false, b), []⟩

/-- A whole call that may write to all variables that it is lent. -/
noncomputable def runFB (C : Ctx) (h : Hints R) (fuel : Nat) (f : Func) (bs : List (List CV)) (vs : List Val) (k : AV → List (List CV) → Option R) : Option R :=
  match f.body with
  | some c => if vs.length ≤ f.ntmps then den C ⟨f.ntmps, f.ntmps + bs.length⟩ h fuel c (initStB f bs vs) fun e st => match e with
    | .normal => finishB C f bs.length st k
    | .ret => finishB C f bs.length st k
    | .exit _ => none else none
  | none => none

/-- A whole call. -/
noncomputable def runF (C : Ctx) (h : Hints R) (fuel : Nat) (f : Func) (io : List Bool) (bs : List (List CV)) (vs : List Val) (k : AV → List CV → Option R) : Option R :=
  match f.body with
  | some c => if vs.length ≤ f.ntmps && ioOk io vs then den C ⟨f.ntmps, f.ntmps + bs.length⟩ h fuel c (initSt f io bs vs) fun e st => match e with
    | .normal => finish C f st k
    | .ret => finish C f st k
    | .exit _ => none else none
  | none => none
end

end Go.Vai
