/- The seat's program, as the interpreter is told it, and functions of the library by their contracts. No conditions. -/
import Derived.Test.YtjfgddmngnkfdaaDoorVaiP
import Derived.Test.YtjfgddmngnkfdaaDoorVaiJ
import Derived.Test.YtjfgddmngnkfdaaDoorSIdx4
import Derived.Test.YtjfgddmngnkfdaaDoorRows
import Derived.ProofKit
import Derived.Shelf.Strconv.Itoa4
import Derived.Shelf.Strconv.ParseIntPublic10
import Derived.Shelf.Small.Strs
import Derived.Ground.NamesProg
import Derived.WalkKit
import Derived.WalkMore
namespace Go.Proofs.YtjfgddmngnkfdaaDoor
open Go.Shelf
def lays173_ren : Go.Shelf.Ren := ⟨fun | 173 => 45 | 246 => 52 | 283 => 58 | 284 => 59 | 285 => 60 | 286 => 61 | 129 => 68 | 317 => 67 | 318 => 69 | 319 => 70 | 320 => 71 | 337 => 73 | 338 => 74 | n => n, fun | 2 => 2 | 3 => 3 | 9 => 9 | 4 => 4 | 171 => 79 | 0 => 0 | 53 => 72 | 37 => 62 | 5 => 5 | 173 => 82 | 212 => 90 | 51 => 91 | 20 => 20 | 213 => 92 | 46 => 68 | 232 => 99 | 233 => 100 | n => n, fun | 17 => 3 | 18 => 4 | 19 => 5 | n => n⟩
theorem lays173 : Go.Proofs.LaysM.n173 Tryd.prog lays173_ren := {
  mixed := by kernel_rfl
  f129 := Tryd.func68.trans (congrArg some (by kernel_rfl))
  f173 := Tryd.func45.trans (congrArg some (by kernel_rfl))
  f246 := Tryd.func52.trans (congrArg some (by kernel_rfl))
  f283 := Tryd.func58.trans (congrArg some (by kernel_rfl))
  f284 := Tryd.func59.trans (congrArg some (by kernel_rfl))
  f285 := Tryd.func60.trans (congrArg some (by kernel_rfl))
  f286 := Tryd.func61.trans (congrArg some (by kernel_rfl))
  f317 := Tryd.func67.trans (congrArg some (by kernel_rfl))
  f318 := Tryd.func69.trans (congrArg some (by kernel_rfl))
  f319 := Tryd.func70.trans (congrArg some (by kernel_rfl))
  f320 := Tryd.func71.trans (congrArg some (by kernel_rfl))
  f337 := Tryd.func73.trans (congrArg some (by kernel_rfl))
  f338 := Tryd.func74.trans (congrArg some (by kernel_rfl))
  t0 := Tryd.underlying0
  a0 := Tryd.isAgg0
  z0 := Tryd.sizeOf0
  v0 := Tryd.zeroValue0
  t2 := Tryd.underlying2
  a2 := Tryd.isAgg2
  z2 := Tryd.sizeOf2
  v2 := Tryd.zeroValue2
  t3 := Tryd.underlying3
  a3 := Tryd.isAgg3
  z3 := Tryd.sizeOf3
  v3 := Tryd.zeroValue3
  t4 := Tryd.underlying4
  a4 := Tryd.isAgg4
  z4 := Tryd.sizeOf4
  v4 := Tryd.zeroValue4
  t5 := Tryd.underlying5
  a5 := Tryd.isAgg5
  z5 := Tryd.sizeOf5
  v5 := Tryd.zeroValue5
  t9 := Tryd.underlying9
  a9 := Tryd.isAgg9
  z9 := Tryd.sizeOf9
  v9 := Tryd.zeroValue9
  t20 := Tryd.underlying20
  a20 := Tryd.isAgg20
  z20 := Tryd.sizeOf20
  v20 := Tryd.zeroValue20
  t37 := Tryd.underlying62
  a37 := Tryd.isAgg62
  z37 := Tryd.sizeOf62
  v37 := Tryd.zeroValue62
  t46 := Tryd.underlying68
  a46 := Tryd.isAgg68
  z46 := Tryd.sizeOf68
  v46 := Tryd.zeroValue68
  t51 := Tryd.underlying91
  a51 := Tryd.isAgg91
  z51 := Tryd.sizeOf91
  v51 := Tryd.zeroValue91
  t53 := Tryd.underlying72
  a53 := Tryd.isAgg72
  z53 := Tryd.sizeOf72
  v53 := Tryd.zeroValue72
  t171 := Tryd.underlying79
  a171 := Tryd.isAgg79
  z171 := Tryd.sizeOf79
  v171 := Tryd.zeroValue79
  t173 := Tryd.underlying82
  a173 := Tryd.isAgg82
  z173 := Tryd.sizeOf82
  v173 := Tryd.zeroValue82
  t212 := Tryd.underlying90
  a212 := Tryd.isAgg90
  z212 := Tryd.sizeOf90
  v212 := Tryd.zeroValue90
  t213 := Tryd.underlying92
  a213 := Tryd.isAgg92
  z213 := Tryd.sizeOf92
  t232 := Tryd.underlying99
  a232 := Tryd.isAgg99
  z232 := Tryd.sizeOf99
  v232 := Tryd.zeroValue99
  t233 := Tryd.underlying100
  a233 := Tryd.isAgg100
  z233 := Tryd.sizeOf100
  v233 := Tryd.zeroValue100
  g17 := by kernel_rfl
  g18 := by kernel_rfl
  g19 := by kernel_rfl
  i0 := by kernel_rfl
  i2 := by kernel_rfl
  i3 := by kernel_rfl
  i4 := by kernel_rfl
  i5 := by kernel_rfl
  i9 := by kernel_rfl
  i20 := by kernel_rfl
  i37 := by kernel_rfl
  i46 := by kernel_rfl
  i51 := by kernel_rfl
  i53 := by kernel_rfl
  i171 := by kernel_rfl
  i173 := by kernel_rfl
  i212 := by kernel_rfl
  i232 := by kernel_rfl
  i233 := by kernel_rfl
  m17 := by kernel_rfl
  m18 := by kernel_rfl
  m19 := by kernel_rfl }

def lays174_ren : Go.Shelf.Ren := ⟨fun | 174 => 39 | 247 => 49 | 245 => 50 | 287 => 53 | 279 => 54 | 280 => 55 | 281 => 56 | 282 => 57 | 321 => 62 | 322 => 63 | 316 => 64 | 171 => 66 | 205 => 65 | 243 => 72 | 246 => 52 | 283 => 58 | 284 => 59 | 285 => 60 | 286 => 61 | 129 => 68 | 317 => 67 | 318 => 69 | 319 => 70 | 320 => 71 | 337 => 73 | 338 => 74 | n => n, fun | 9 => 9 | 3 => 3 | 2 => 2 | 75 => 59 | 85 => 60 | 4 => 4 | 167 => 71 | 5 => 5 | 53 => 72 | 175 => 73 | 46 => 68 | 168 => 75 | 37 => 62 | 0 => 0 | 210 => 87 | 21 => 21 | 127 => 94 | 145 => 97 | 143 => 95 | 171 => 79 | 173 => 82 | 212 => 90 | 51 => 91 | 20 => 20 | 213 => 92 | 232 => 99 | 233 => 100 | 80 => 101 | n => n, fun | 15 => 1 | 16 => 2 | 17 => 3 | 18 => 4 | 19 => 5 | n => n⟩
theorem lays174 : Go.Proofs.LaysC.n174 Tryd.prog lays174_ren := {
  mixed := by kernel_rfl
  f129 := Tryd.func68.trans (congrArg some (by kernel_rfl))
  f171 := Tryd.func66.trans (congrArg some (by kernel_rfl))
  f174 := Tryd.func39.trans (congrArg some (by kernel_rfl))
  f205 := Tryd.func65.trans (congrArg some (by kernel_rfl))
  f243 := Tryd.func72.trans (congrArg some (by kernel_rfl))
  f245 := Tryd.func50.trans (congrArg some (by kernel_rfl))
  f246 := Tryd.func52.trans (congrArg some (by kernel_rfl))
  f247 := Tryd.func49.trans (congrArg some (by kernel_rfl))
  f279 := Tryd.func54.trans (congrArg some (by kernel_rfl))
  f280 := Tryd.func55.trans (congrArg some (by kernel_rfl))
  f281 := Tryd.func56.trans (congrArg some (by kernel_rfl))
  f282 := Tryd.func57.trans (congrArg some (by kernel_rfl))
  f283 := Tryd.func58.trans (congrArg some (by kernel_rfl))
  f284 := Tryd.func59.trans (congrArg some (by kernel_rfl))
  f285 := Tryd.func60.trans (congrArg some (by kernel_rfl))
  f286 := Tryd.func61.trans (congrArg some (by kernel_rfl))
  f287 := Tryd.func53.trans (congrArg some (by kernel_rfl))
  f316 := Tryd.func64.trans (congrArg some (by kernel_rfl))
  f317 := Tryd.func67.trans (congrArg some (by kernel_rfl))
  f318 := Tryd.func69.trans (congrArg some (by kernel_rfl))
  f319 := Tryd.func70.trans (congrArg some (by kernel_rfl))
  f320 := Tryd.func71.trans (congrArg some (by kernel_rfl))
  f321 := Tryd.func62.trans (congrArg some (by kernel_rfl))
  f322 := Tryd.func63.trans (congrArg some (by kernel_rfl))
  f337 := Tryd.func73.trans (congrArg some (by kernel_rfl))
  f338 := Tryd.func74.trans (congrArg some (by kernel_rfl))
  t0 := Tryd.underlying0
  a0 := Tryd.isAgg0
  z0 := Tryd.sizeOf0
  v0 := Tryd.zeroValue0
  t2 := Tryd.underlying2
  a2 := Tryd.isAgg2
  z2 := Tryd.sizeOf2
  v2 := Tryd.zeroValue2
  t3 := Tryd.underlying3
  a3 := Tryd.isAgg3
  z3 := Tryd.sizeOf3
  v3 := Tryd.zeroValue3
  t4 := Tryd.underlying4
  a4 := Tryd.isAgg4
  z4 := Tryd.sizeOf4
  v4 := Tryd.zeroValue4
  t5 := Tryd.underlying5
  a5 := Tryd.isAgg5
  z5 := Tryd.sizeOf5
  v5 := Tryd.zeroValue5
  t9 := Tryd.underlying9
  a9 := Tryd.isAgg9
  z9 := Tryd.sizeOf9
  v9 := Tryd.zeroValue9
  t20 := Tryd.underlying20
  a20 := Tryd.isAgg20
  z20 := Tryd.sizeOf20
  v20 := Tryd.zeroValue20
  t21 := Tryd.underlying21
  a21 := Tryd.isAgg21
  z21 := Tryd.sizeOf21
  v21 := Tryd.zeroValue21
  t37 := Tryd.underlying62
  a37 := Tryd.isAgg62
  z37 := Tryd.sizeOf62
  v37 := Tryd.zeroValue62
  t46 := Tryd.underlying68
  a46 := Tryd.isAgg68
  z46 := Tryd.sizeOf68
  v46 := Tryd.zeroValue68
  t51 := Tryd.underlying91
  a51 := Tryd.isAgg91
  z51 := Tryd.sizeOf91
  v51 := Tryd.zeroValue91
  t53 := Tryd.underlying72
  a53 := Tryd.isAgg72
  z53 := Tryd.sizeOf72
  v53 := Tryd.zeroValue72
  t75 := Tryd.underlying59
  a75 := Tryd.isAgg59
  z75 := Tryd.sizeOf59
  v75 := Tryd.zeroValue59
  t85 := Tryd.underlying60
  a85 := Tryd.isAgg60
  z85 := Tryd.sizeOf60
  v85 := Tryd.zeroValue60
  t127 := Tryd.underlying94
  a127 := Tryd.isAgg94
  z127 := Tryd.sizeOf94
  v127 := Tryd.zeroValue94
  t143 := Tryd.underlying95
  a143 := Tryd.isAgg95
  z143 := Tryd.sizeOf95
  v143 := Tryd.zeroValue95
  t145 := Tryd.underlying97
  a145 := Tryd.isAgg97
  z145 := Tryd.sizeOf97
  v145 := Tryd.zeroValue97
  t167 := Tryd.underlying71
  a167 := Tryd.isAgg71
  z167 := Tryd.sizeOf71
  v167 := Tryd.zeroValue71
  t168 := Tryd.underlying75
  a168 := Tryd.isAgg75
  z168 := Tryd.sizeOf75
  v168 := Tryd.zeroValue75
  t171 := Tryd.underlying79
  a171 := Tryd.isAgg79
  z171 := Tryd.sizeOf79
  v171 := Tryd.zeroValue79
  t173 := Tryd.underlying82
  a173 := Tryd.isAgg82
  z173 := Tryd.sizeOf82
  v173 := Tryd.zeroValue82
  t175 := Tryd.underlying73
  a175 := Tryd.isAgg73
  z175 := Tryd.sizeOf73
  v175 := Tryd.zeroValue73
  t210 := Tryd.underlying87
  a210 := Tryd.isAgg87
  z210 := Tryd.sizeOf87
  v210 := Tryd.zeroValue87
  t212 := Tryd.underlying90
  a212 := Tryd.isAgg90
  z212 := Tryd.sizeOf90
  v212 := Tryd.zeroValue90
  t213 := Tryd.underlying92
  a213 := Tryd.isAgg92
  z213 := Tryd.sizeOf92
  t232 := Tryd.underlying99
  a232 := Tryd.isAgg99
  z232 := Tryd.sizeOf99
  v232 := Tryd.zeroValue99
  t233 := Tryd.underlying100
  a233 := Tryd.isAgg100
  z233 := Tryd.sizeOf100
  v233 := Tryd.zeroValue100
  g15 := by kernel_rfl
  g16 := by kernel_rfl
  g17 := by kernel_rfl
  g18 := by kernel_rfl
  g19 := by kernel_rfl
  t80 := Tryd.underlying101
  a80 := Tryd.isAgg101
  z80 := Tryd.sizeOf101
  v80 := Tryd.zeroValue101
  i0 := by kernel_rfl
  i2 := by kernel_rfl
  i3 := by kernel_rfl
  i4 := by kernel_rfl
  i5 := by kernel_rfl
  i9 := by kernel_rfl
  i20 := by kernel_rfl
  i21 := by kernel_rfl
  i37 := by kernel_rfl
  i46 := by kernel_rfl
  i51 := by kernel_rfl
  i53 := by kernel_rfl
  i75 := by kernel_rfl
  i80 := by kernel_rfl
  i85 := by kernel_rfl
  i127 := by kernel_rfl
  i143 := by kernel_rfl
  i145 := by kernel_rfl
  i167 := by kernel_rfl
  i168 := by kernel_rfl
  i171 := by kernel_rfl
  i173 := by kernel_rfl
  i175 := by kernel_rfl
  i210 := by kernel_rfl
  i212 := by kernel_rfl
  i232 := by kernel_rfl
  i233 := by kernel_rfl
  m15 := by kernel_rfl
  m16 := by kernel_rfl
  m17 := by kernel_rfl
  m18 := by kernel_rfl
  m19 := by kernel_rfl
  c0 := by kernel_rfl
  c2 := by kernel_rfl
  c3 := by kernel_rfl
  c4 := by kernel_rfl
  c5 := by kernel_rfl
  c9 := by kernel_rfl
  c20 := by kernel_rfl
  c21 := by kernel_rfl
  c37 := by kernel_rfl
  c46 := by kernel_rfl
  c51 := by kernel_rfl
  c53 := by kernel_rfl
  c75 := by kernel_rfl
  c80 := by kernel_rfl
  c85 := by kernel_rfl
  c127 := by kernel_rfl
  c143 := by kernel_rfl
  c145 := by kernel_rfl
  c167 := by kernel_rfl
  c168 := by kernel_rfl
  c171 := by kernel_rfl
  c173 := by kernel_rfl
  c175 := by kernel_rfl
  c210 := by kernel_rfl
  c212 := by kernel_rfl
  c213 := by kernel_rfl
  c232 := by kernel_rfl
  c233 := by kernel_rfl }
def lays153_ren : Go.Shelf.Ren := ⟨fun | 153 => 22 | 152 => 35 | 226 => 36 | 227 => 37 | 228 => 38 | 137 => 24 | 119 => 46 | 224 => 47 | 225 => 48 | 217 => 40 | 266 => 51 | n => n, fun | 9 => 9 | 3 => 3 | 4 => 4 | 5 => 5 | 21 => 21 | 117 => 56 | 116 => 55 | 0 => 0 | 46 => 68 | 124 => 69 | n => n, fun | n => n⟩
theorem lays153 : Go.Proofs.Lays.n153 Tryd.prog lays153_ren := {
  mixed := by kernel_rfl
  f119 := Tryd.func46.trans (congrArg some (by kernel_rfl))
  f137 := Tryd.func24.trans (congrArg some (by kernel_rfl))
  f152 := Tryd.func35.trans (congrArg some (by kernel_rfl))
  f153 := Tryd.func22.trans (congrArg some (by kernel_rfl))
  f217 := Tryd.func40.trans (congrArg some (by kernel_rfl))
  f224 := Tryd.func47.trans (congrArg some (by kernel_rfl))
  f225 := Tryd.func48.trans (congrArg some (by kernel_rfl))
  f226 := Tryd.func36.trans (congrArg some (by kernel_rfl))
  f227 := Tryd.func37.trans (congrArg some (by kernel_rfl))
  f228 := Tryd.func38.trans (congrArg some (by kernel_rfl))
  f266 := Tryd.func51.trans (congrArg some (by kernel_rfl))
  t0 := Tryd.underlying0
  a0 := Tryd.isAgg0
  z0 := Tryd.sizeOf0
  v0 := Tryd.zeroValue0
  t3 := Tryd.underlying3
  a3 := Tryd.isAgg3
  z3 := Tryd.sizeOf3
  v3 := Tryd.zeroValue3
  t4 := Tryd.underlying4
  a4 := Tryd.isAgg4
  z4 := Tryd.sizeOf4
  v4 := Tryd.zeroValue4
  t5 := Tryd.underlying5
  a5 := Tryd.isAgg5
  z5 := Tryd.sizeOf5
  v5 := Tryd.zeroValue5
  t9 := Tryd.underlying9
  a9 := Tryd.isAgg9
  z9 := Tryd.sizeOf9
  v9 := Tryd.zeroValue9
  t21 := Tryd.underlying21
  a21 := Tryd.isAgg21
  z21 := Tryd.sizeOf21
  v21 := Tryd.zeroValue21
  t46 := Tryd.underlying68
  a46 := Tryd.isAgg68
  z46 := Tryd.sizeOf68
  v46 := Tryd.zeroValue68
  t116 := Tryd.underlying55
  a116 := Tryd.isAgg55
  z116 := Tryd.sizeOf55
  t117 := Tryd.underlying56
  a117 := Tryd.isAgg56
  z117 := Tryd.sizeOf56
  v117 := Tryd.zeroValue56
  t124 := Tryd.underlying69
  a124 := Tryd.isAgg69
  z124 := Tryd.sizeOf69
  v124 := Tryd.zeroValue69 }
def lays137_ren : Go.Shelf.Ren := ⟨fun | 137 => 24 | 217 => 40 | 266 => 51 | n => n, fun | 9 => 9 | 5 => 5 | 3 => 3 | n => n, fun | n => n⟩
theorem lays137 : Go.Proofs.Lays.n137 Tryd.prog lays137_ren := {
  mixed := by kernel_rfl
  f137 := Tryd.func24.trans (congrArg some (by kernel_rfl))
  f217 := Tryd.func40.trans (congrArg some (by kernel_rfl))
  f266 := Tryd.func51.trans (congrArg some (by kernel_rfl))
  t3 := Tryd.underlying3
  a3 := Tryd.isAgg3
  z3 := Tryd.sizeOf3
  v3 := Tryd.zeroValue3
  t5 := Tryd.underlying5
  a5 := Tryd.isAgg5
  z5 := Tryd.sizeOf5
  v5 := Tryd.zeroValue5
  t9 := Tryd.underlying9
  a9 := Tryd.isAgg9
  z9 := Tryd.sizeOf9
  v9 := Tryd.zeroValue9 }
open Go.Vai
set_option maxRecDepth 100000

theorem mixed : Tryd.prog.follows .mixedOrders = true := by kernel_rfl
/-- The listed variable's cells. -/
noncomputable def powCells : List Value := Lib.pow10Tab.map fun n => .int .u64 n
/-- What the two errors of strconv hold. -/
abbrev EV := (TypeId × Value) × (TypeId × Value)
noncomputable def C0 (ee : EV) : Ctx := { P := Tryd.prog, ρ := fun _ => none, glob := fun h => match h with | 1 => some [.v (.iface ee.1.1 ee.1.2)] | 2 => some [.v (.iface ee.2.1 ee.2.2)] | 3 => some (powCells.map .v) | _ => none }
variable {ee : EV}

theorem pow_tab {w : World} (h : TabsIn (C0 ee) w) : Lib.TabIs Tryd.prog w "internal/strconv.uint64pow10" .u64 Lib.pow10Tab := by
  obtain ⟨vs, e, fz, h1, h2⟩ := h 3 (powCells.map .v) rfl
  have hv : vs.toList = powCells := by
    have := congrArg (List.map fun c => match c with | CV.v x => x | _ => .bool true) h2
    simpa [List.map_map, Function.comp_def] using this.symm
  have hg : Tryd.prog.globalNamed "internal/strconv.uint64pow10" = some 3 := by kernel_rfl
  unfold Lib.TabIs
  simp only [World.var?, hg, Option.bind_some, h1]
  congr 1
  have : vs = powCells.toArray := by rw [← hv]
  rw [this]; rfl

theorem below_grow (w : World) (k : Nat) (os : Array Obj) : Go.RowKit.Below w.heap.size w (Go.Sort.grow (w.drewN k) os) := by
  have h : (Go.Sort.grow (w.drewN k) os).heap = w.heap ++ os := rfl
  exact ⟨rfl, rfl, rfl, by rw [h]; simp, fun n hn => by rw [h, Array.getElem?_append, if_pos hn]⟩

noncomputable def g_strconv_FormatInt (a0 a1 : Int) : Option ByteArray :=
  if -9223372036854775808 ≤ a0 ∧ a0 ≤ 9223372036854775807 ∧ a1 = 10 then some ⟨(Lib.itoa a0).toArray⟩ else none
abbrev as_strconv_FormatInt : List AX := [.val false (.int .i64), .val false (.int .i64)]
noncomputable abbrev k_strconv_FormatInt : Contract := .fx as_strconv_FormatInt ByteArray (fun z => g_strconv_FormatInt z.1 z.2.1) (fun b => (.one ⟨false, [(.v (.string b))]⟩, []))
theorem so_strconv_FormatInt : Sound (C0 ee) 45 k_strconv_FormatInt := by
  refine Sound.simple (Go.Vai.Enters.of Tryd.func45 (by kernel_rfl) (by kernel_rfl)) rfl ?_
  rintro ⟨n, c, ⟨⟩⟩ b hb w hw
  have hb' : g_strconv_FormatInt n c = some b := hb
  clear hb
  unfold g_strconv_FormatInt at hb'
  split at hb'
  · rename_i hc
    obtain ⟨h0, h1, h2⟩ := hc
    subst h2
    have hb2 := Option.some.inj hb'
    subst hb2
    refine (Any.strconv_FormatInt_10 lays173 n h0 h1 w (pow_tab hw)).mono ?_
    rintro e w' ⟨rfl, k, os, rfl⟩
    exact ⟨_, rfl, plain_one _, below_grow w k os⟩
  · cases hb'

/-! strings.IndexByte, strings.IndexAny -/
noncomputable def g_strings_IndexByte (a0 : ByteArray) (a1 : Int) : Option Int :=
  if 0 ≤ a1 ∧ a1 ≤ 255 ∧ a0.size ≤ 9223372036854775807 then some (Lib.indexByte a0.data.toList a1.toNat.toUInt8) else none
abbrev as_strings_IndexByte : List AX := [.val false .str, .val false (.int .u8)]
noncomputable abbrev k_strings_IndexByte : Contract := .fx as_strings_IndexByte Int (fun z => g_strings_IndexByte z.1 z.2.1) (fun b => (.one ⟨false, [(.v (.int .i64 b))]⟩, []))
theorem so_strings_IndexByte : Sound (C0 ee) 24 k_strings_IndexByte := by
  refine Sound.simple (Go.Vai.Enters.of Tryd.func24 (by kernel_rfl) (by kernel_rfl)) rfl ?_
  rintro ⟨s, c, ⟨⟩⟩ b hb w hw
  have hb' : g_strings_IndexByte s c = some b := hb
  clear hb
  unfold g_strings_IndexByte at hb'
  split at hb'
  · rename_i hc
    cases hb'
    refine (Any.strings_IndexByte lays137 s c w).mono ?_
    rintro e w' ⟨rfl, rfl⟩
    exact ⟨_, rfl, plain_one _, Go.RowKit.Below.refl _ _⟩
  · cases hb'

noncomputable def g_strings_IndexAny (a0 a1 : ByteArray) : Option Int :=
  if a0.size < 4294967281 ∧ a1 = ⟨#[77, 86]⟩ then some (Lib.indexAny a0.data.toList [77, 86]) else none
abbrev as_strings_IndexAny : List AX := [.val false .str, .val false .str]
noncomputable abbrev k_strings_IndexAny : Contract := .fx as_strings_IndexAny Int (fun z => g_strings_IndexAny z.1 z.2.1) (fun b => (.one ⟨false, [(.v (.int .i64 b))]⟩, []))
theorem so_strings_IndexAny : Sound (C0 ee) 22 k_strings_IndexAny := by
  refine Sound.simple (Go.Vai.Enters.of Tryd.func22 (by kernel_rfl) (by kernel_rfl)) rfl ?_
  rintro ⟨s, c, ⟨⟩⟩ b hb w hw
  have hb' : g_strings_IndexAny s c = some b := hb
  clear hb
  unfold g_strings_IndexAny at hb'
  split at hb'
  · rename_i hc
    obtain ⟨hs, rfl⟩ := hc
    cases hb'
    refine (Any.strings_IndexAny_two lays153 (by kernel_rfl) s ⟨#[77, 86]⟩ w hs rfl (fun j b hj => ?_)).mono ?_
    · have : b ∈ ([77, 86] : List UInt8) := List.mem_of_getElem? hj
      rcases List.mem_cons.1 this with rfl | h
      · decide
      · rcases List.mem_cons.1 h with rfl | h
        · decide
        · cases h
    · rintro e w' ⟨rfl, hb⟩
      exact ⟨_, rfl, plain_one _, hb⟩
  · cases hb'

/-! impl.readNumber -/
/-- What readNumber gives. -/
def numRes (s : ByteArray) : Int × Bool := match Lib.parseIntB 64 s.data.toList with
  | .ok v => (v, Lib.itoa v == s.toList)
  | .range => (Lib.intSat 64 s.data.toList, false)
  | _ => (0, false)

theorem parse_bd {l : List UInt8} {v : Int} (h : Lib.parseIntB 64 l = .ok v) : -9223372036854775808 ≤ v ∧ v ≤ 9223372036854775807 := by
  unfold Lib.parseIntB at h
  split at h
  · cases h
  · simp only at h
    split at h
    · cases h
    · cases h
    · rename_i u _
      split at h
      · cases h
      · split at h
        · cases h
        · rename_i h1 h2
          split at h
          · rename_i h3
            cases h
            have : ¬ 2 ^ (64 - 1) < u := fun hh => h2 ⟨h3, hh⟩
            omega
          · rename_i h3
            cases h
            have : ¬ 2 ^ (64 - 1) ≤ u := fun hh => h1 ⟨h3, hh⟩
            omega

theorem bytes_below (w : World) (e : TypeId) (t : ByteArray) : Go.RowKit.Below w.heap.size w (Lib.bytesWorld w e t) := by
  have h : (Lib.bytesWorld w e t).heap = (w.drew.alloc (.cells (Lib.bytesCells w e t) e)).heap.modify w.heap.size fun x => match x with
      | .cells c elem (lo, hi) => .cells c elem (if (lo == hi) = true then ((Lib.bytesCells w e t).size, (Lib.bytesCells w e t).size + 1) else (min lo (Lib.bytesCells w e t).size, max hi ((Lib.bytesCells w e t).size + 1)))
      | o => o := rfl
  refine ⟨rfl, rfl, rfl, ?_, fun k hk => ?_⟩
  · rw [h, Array.size_modify]
    show w.heap.size ≤ (w.heap.push _).size
    simp
  · rw [h, Array.getElem?_modify, if_neg (by omega)]
    exact Go.heap_alloc_old w.drew _ hk

theorem err1 {w : World} (h : TabsIn (C0 ee) w) : w.cell? ⟨1, 0, none⟩ = some (.iface ee.1.1 ee.1.2) := by
  obtain ⟨vs, e, fz, h1, h2⟩ := h 1 [.v (.iface ee.1.1 ee.1.2)] rfl
  have hv : vs.toList = [.iface ee.1.1 ee.1.2] := by
    have := congrArg (List.map fun c => match c with | CV.v x => x | _ => .bool true) h2
    simpa [List.map_map, Function.comp_def] using this.symm
  rw [cell_of h1]
  have := congrArg (fun l => l[0]?) hv
  simpa using this

theorem err2 {w : World} (h : TabsIn (C0 ee) w) : w.cell? ⟨2, 0, none⟩ = some (.iface ee.2.1 ee.2.2) := by
  obtain ⟨vs, e, fz, h1, h2⟩ := h 2 [.v (.iface ee.2.1 ee.2.2)] rfl
  have hv : vs.toList = [.iface ee.2.1 ee.2.2] := by
    have := congrArg (List.map fun c => match c with | CV.v x => x | _ => .bool true) h2
    simpa [List.map_map, Function.comp_def] using this.symm
  rw [cell_of h1]
  have := congrArg (fun l => l[0]?) hv
  simpa using this

theorem tabs_below {w w' : World} (h : TabsIn (C0 ee) w) (hb : Go.RowKit.Below w.heap.size w w') : TabsIn (C0 ee) w' := by
  intro k cs hc
  obtain ⟨vs, e, fz, h1, h2⟩ := h k cs hc
  exact ⟨vs, e, fz, by rw [hb.block k (Array.getElem?_eq_some_iff.1 h1).1]; exact h1, h2⟩

open Go.RowKit in
set_option maxHeartbeats 4000000 in
set_option maxRecDepth 1000000 in
theorem decimal_call {n : Int} (h0 : -9223372036854775808 ≤ n) (h1 : n ≤ 9223372036854775807) {w : World} (hw : TabsIn (C0 ee) w) :
    Calls Tryd.prog 34 #[.int .i64 n] w fun e w' => e = .returned (.string ⟨(Lib.itoa n).toArray⟩) ∧ Below w.heap.size w w' := by
  have e45 : ∀ args w, (callFunc 45 args).run Tryd.prog w = .ok (.enter 45 args) w := fun args w => (Go.Vai.Enters.of Tryd.func45 (by kernel_rfl) (by kernel_rfl)).run args w
  have HW : Aside (TabsIn (C0 ee) w) := hw
  have HN : Aside (-9223372036854775808 ≤ n ∧ n ≤ 9223372036854775807) := ⟨h0, h1⟩
  clear hw h0 h1
  go_enter Tryd.func34, Tryd.ntmps34
  go_wp2_with fail
  refine (Any.strconv_FormatInt_10 lays173 n HN.out.1 HN.out.2 w (pow_tab HW.out)).mono ?_
  rintro e w1 ⟨rfl, k, os, rfl⟩
  have HB : Aside (Below w.heap.size w (Go.Sort.grow (w.drewN k) os)) := below_grow w k os
  obtain ⟨w2, hw2⟩ : ∃ w2, w2 = Go.Sort.grow (w.drewN k) os := ⟨_, rfl⟩
  rw [← hw2] at HB ⊢
  clear hw2
  go_wp2_with fail
  go_ret
  exact ⟨rfl, HB⟩

open Go.RowKit in
set_option maxHeartbeats 4000000 in
set_option maxRecDepth 1000000 in
theorem readNumber_calls (s : ByteArray) (hs : s.size ≤ 281474976710656) {w : World} (hw : TabsIn (C0 ee) w) :
    Calls Tryd.prog 23 #[.string s] w fun e w' => e = .returned (.tuple #[.int .i64 (numRes s).1, .bool (numRes s).2]) ∧ Below w.heap.size w w' := by
  have e39 : ∀ args w, (callFunc 39 args).run Tryd.prog w = .ok (.enter 39 args) w := fun args w => (Go.Vai.Enters.of Tryd.func39 (by kernel_rfl) (by kernel_rfl)).run args w
  have e34 : ∀ args w, (callFunc 34 args).run Tryd.prog w = .ok (.enter 34 args) w := fun args w => (Go.Vai.Enters.of Tryd.func34 (by kernel_rfl) (by kernel_rfl)).run args w
  have HW : Aside (TabsIn (C0 ee) w) := hw
  clear hw
  cases hp : Lib.parseIntB 64 s.data.toList
  case ok v =>
    have hres : numRes s = (v, Lib.itoa v == s.toList) := by unfold numRes; rw [hp]
    rw [hres]
    have hb := parse_bd hp
    have HP : Aside (Lib.parseIntB 64 s.data.toList = .ok v ∧ -9223372036854775808 ≤ v ∧ v ≤ 9223372036854775807) := ⟨hp, hb⟩
    clear hp hres hb
    go_enter Tryd.func23, Tryd.ntmps23
    go_wp2_with fail
    refine (Any.strconv_ParseInt_10_at64_ok lays174 s (by omega) v HP.out.1 w).mono ?_
    rintro e w1 ⟨rfl, hw1⟩
    have HB : Aside (Below w.heap.size w w1) := by
      rcases hw1 with rfl | ⟨t, rfl⟩
      · exact Below.refl _ _
      · exact bytes_below _ _ _
    clear hw1
    go_wp2_with fail
    refine (decimal_call HP.out.2.1 HP.out.2.2 (tabs_below HW.out HB.out)).mono ?_
    rintro e2 w2 ⟨rfl, hB2⟩
    have HB2 : Aside (Below w.heap.size w w2) := HB.out.trans (hB2.mono HB.out.size)
    clear hB2
    go_wp2_with fail
    go_ret2
    exact ⟨rfl, HB2⟩
  case range =>
    have hres : numRes s = (Lib.intSat 64 s.data.toList, false) := by unfold numRes; rw [hp]
    rw [hres]
    have HP : Aside (Lib.parseIntB 64 s.data.toList = .range) := hp
    clear hp hres
    go_enter Tryd.func23, Tryd.ntmps23
    go_wp2_with fail
    refine (Any.strconv_ParseInt_10_at64_range lays174 s hs HP.out (.iface ee.2.1 ee.2.2) w (err2 HW.out) (.inr ⟨_, _, rfl⟩)).mono ?_
    rintro e w1 ⟨N, rfl, hN, hh, hB⟩
    have HB : Aside (Below w.heap.size w w1) := hB
    clear hN hh hB
    go_wp2_with fail
    go_ret2
    exact ⟨rfl, HB⟩
  · have hres : numRes s = (0, false) := by unfold numRes; rw [hp]
    rw [hres]
    have HP : Aside (Lib.parseIntB 64 s.data.toList = _) := hp
    clear hp hres
    go_enter Tryd.func23, Tryd.ntmps23
    go_wp2_with fail
    refine (Any.strconv_ParseInt_10_at64_syntax lays174 s hs HP.out (.iface ee.1.1 ee.1.2) w (err1 HW.out) (.inr ⟨_, _, rfl⟩)).mono ?_
    rintro e w1 ⟨N, rfl, hN, hh, hB⟩
    have HB : Aside (Below w.heap.size w w1) := hB
    clear hN hh hB
    go_wp2_with fail
    go_ret2
    exact ⟨rfl, HB⟩

noncomputable def g_impl_readNumber (a0 : ByteArray) : Option (Int × Bool) := if a0.size ≤ 281474976710656 then some (numRes a0) else none
abbrev as_impl_readNumber : List AX := [.val false .str]
noncomputable abbrev k_impl_readNumber : Contract := .fx as_impl_readNumber (Int × Bool) (fun z => g_impl_readNumber z.1) (fun b => (.tup [⟨false, [(.v (.int .i64 b.1))]⟩, ⟨false, [(.v (.bool b.2))]⟩], []))
theorem so_impl_readNumber : Sound (C0 ee) 23 k_impl_readNumber := by
  refine Sound.simple (Go.Vai.Enters.of Tryd.func23 (by kernel_rfl) (by kernel_rfl)) rfl ?_
  rintro ⟨s, ⟨⟩⟩ b hb w hw
  have hb' : g_impl_readNumber s = some b := hb
  clear hb
  unfold g_impl_readNumber at hb'
  split at hb'
  · rename_i hc
    cases hb'
    refine (readNumber_calls s hc hw).mono ?_
    rintro e w' ⟨rfl, hB⟩
    exact ⟨_, rfl, plain_two _ _, hB⟩
  · cases hb'
end Go.Proofs.YtjfgddmngnkfdaaDoor
