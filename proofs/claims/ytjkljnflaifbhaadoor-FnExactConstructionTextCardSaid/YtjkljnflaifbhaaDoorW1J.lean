/- The seat's program, as the interpreter is told it, and four functions of the library by their contracts. No conditions. -/
import Derived.Test.YtjkljnflaifbhaaDoorVaiP
import Derived.Test.YtjkljnflaifbhaaDoorRows
import Derived.ProofKit
import Derived.Shelf.Strings.SlTrimAscii
import Derived.Shelf.Small.Strs
import Derived.Shelf.Strconv.Itoa4
import Derived.Shelf.Strings.OnBuilder
import Derived.Ground.NamesProg
namespace Go.Proofs.YtjkljnflaifbhaaDoor
open Go.Shelf
def lays160_ren : Go.Shelf.Ren := ⟨fun | 160 => 89 | 232 => 135 | 231 => 134 | 227 => 136 | 234 => 138 | 233 => 137 | 236 => 140 | 235 => 139 | 228 => 160 | 271 => 163 | 151 => 162 | 197 => 161 | 120 => 182 | 152 => 181 | 260 => 180 | 137 => 90 | 119 => 194 | 224 => 195 | 225 => 196 | 217 => 141 | 266 => 164 | n => n, fun | 9 => 9 | 4 => 4 | 3 => 3 | 5 => 5 | 117 => 163 | 116 => 162 | 0 => 0 | 124 => 166 | 21 => 21 | 105 => 190 | 46 => 188 | 119 => 222 | 139 => 225 | 138 => 224 | n => n, fun | 3 => 3 | 4 => 4 | n => n⟩
theorem lays160 : Go.Proofs.Lays.n160 Tryd.prog lays160_ren := {
  mixed := by kernel_rfl
  f119 := Tryd.func194.trans (congrArg some (by kernel_rfl))
  f120 := Tryd.func182.trans (congrArg some (by kernel_rfl))
  f137 := Tryd.func90.trans (congrArg some (by kernel_rfl))
  f151 := Tryd.func162.trans (congrArg some (by kernel_rfl))
  f152 := Tryd.func181.trans (congrArg some (by kernel_rfl))
  f160 := Tryd.func89.trans (congrArg some (by kernel_rfl))
  f197 := Tryd.func161.trans (congrArg some (by kernel_rfl))
  f217 := Tryd.func141.trans (congrArg some (by kernel_rfl))
  f224 := Tryd.func195.trans (congrArg some (by kernel_rfl))
  f225 := Tryd.func196.trans (congrArg some (by kernel_rfl))
  f227 := Tryd.func136.trans (congrArg some (by kernel_rfl))
  f228 := Tryd.func160.trans (congrArg some (by kernel_rfl))
  f231 := Tryd.func134.trans (congrArg some (by kernel_rfl))
  f232 := Tryd.func135.trans (congrArg some (by kernel_rfl))
  f233 := Tryd.func137.trans (congrArg some (by kernel_rfl))
  f234 := Tryd.func138.trans (congrArg some (by kernel_rfl))
  f235 := Tryd.func139.trans (congrArg some (by kernel_rfl))
  f236 := Tryd.func140.trans (congrArg some (by kernel_rfl))
  f260 := Tryd.func180.trans (congrArg some (by kernel_rfl))
  f266 := Tryd.func164.trans (congrArg some (by kernel_rfl))
  f271 := Tryd.func163.trans (congrArg some (by kernel_rfl))
  t0 := Tryd.underlying0
  a0 := Tryd.isAgg0
  z0 := Tryd.sizeOf0
  v0 := Tryd.zeroValue0
  t3 := Tryd.underlying3
  a3 := Tryd.isAgg3
  z3 := Tryd.sizeOf3
  v3 := Tryd.zeroValue3
  t4 := Tryd.underlying4
  a4 := Tryd.isAgg4
  z4 := Tryd.sizeOf4
  v4 := Tryd.zeroValue4
  t5 := Tryd.underlying5
  a5 := Tryd.isAgg5
  z5 := Tryd.sizeOf5
  v5 := Tryd.zeroValue5
  t9 := Tryd.underlying9
  a9 := Tryd.isAgg9
  z9 := Tryd.sizeOf9
  v9 := Tryd.zeroValue9
  t21 := Tryd.underlying21
  a21 := Tryd.isAgg21
  z21 := Tryd.sizeOf21
  v21 := Tryd.zeroValue21
  t46 := Tryd.underlying188
  a46 := Tryd.isAgg188
  z46 := Tryd.sizeOf188
  v46 := Tryd.zeroValue188
  t105 := Tryd.underlying190
  a105 := Tryd.isAgg190
  z105 := Tryd.sizeOf190
  v105 := Tryd.zeroValue190
  t116 := Tryd.underlying162
  a116 := Tryd.isAgg162
  z116 := Tryd.sizeOf162
  t117 := Tryd.underlying163
  a117 := Tryd.isAgg163
  z117 := Tryd.sizeOf163
  v117 := Tryd.zeroValue163
  t119 := Tryd.underlying222
  a119 := Tryd.isAgg222
  z119 := Tryd.sizeOf222
  t124 := Tryd.underlying166
  a124 := Tryd.isAgg166
  z124 := Tryd.sizeOf166
  v124 := Tryd.zeroValue166
  t138 := Tryd.underlying224
  a138 := Tryd.isAgg224
  z138 := Tryd.sizeOf224
  v138 := Tryd.zeroValue224
  t139 := Tryd.underlying225
  a139 := Tryd.isAgg225
  z139 := Tryd.sizeOf225
  v139 := Tryd.zeroValue225
  g3 := by kernel_rfl
  g4 := by kernel_rfl }
def lays137_ren : Go.Shelf.Ren := ⟨fun | 137 => 90 | 217 => 141 | 266 => 164 | n => n, fun | 9 => 9 | 5 => 5 | 3 => 3 | n => n, fun | n => n⟩
theorem lays137 : Go.Proofs.Lays.n137 Tryd.prog lays137_ren := {
  mixed := by kernel_rfl
  f137 := Tryd.func90.trans (congrArg some (by kernel_rfl))
  f217 := Tryd.func141.trans (congrArg some (by kernel_rfl))
  f266 := Tryd.func164.trans (congrArg some (by kernel_rfl))
  t3 := Tryd.underlying3
  a3 := Tryd.isAgg3
  z3 := Tryd.sizeOf3
  v3 := Tryd.zeroValue3
  t5 := Tryd.underlying5
  a5 := Tryd.isAgg5
  z5 := Tryd.sizeOf5
  v5 := Tryd.zeroValue5
  t9 := Tryd.underlying9
  a9 := Tryd.isAgg9
  z9 := Tryd.sizeOf9
  v9 := Tryd.zeroValue9 }
def laysM173_ren : Go.Shelf.Ren := ⟨fun | 173 => 144 | 246 => 166 | 283 => 183 | 284 => 184 | 285 => 185 | 286 => 186 | 129 => 179 | 317 => 197 | 318 => 198 | 319 => 199 | 320 => 200 | 337 => 202 | 338 => 203 | n => n, fun | 2 => 2 | 3 => 3 | 9 => 9 | 4 => 4 | 171 => 209 | 0 => 0 | 53 => 133 | 37 => 57 | 5 => 5 | 173 => 211 | 212 => 230 | 51 => 205 | 20 => 20 | 213 => 231 | 46 => 188 | 232 => 236 | 233 => 237 | n => n, fun | 17 => 5 | 18 => 6 | 19 => 7 | n => n⟩
theorem laysM173 : Go.Proofs.LaysM.n173 Tryd.prog laysM173_ren := {
  mixed := by kernel_rfl
  f129 := Tryd.func179.trans (congrArg some (by kernel_rfl))
  f173 := Tryd.func144.trans (congrArg some (by kernel_rfl))
  f246 := Tryd.func166.trans (congrArg some (by kernel_rfl))
  f283 := Tryd.func183.trans (congrArg some (by kernel_rfl))
  f284 := Tryd.func184.trans (congrArg some (by kernel_rfl))
  f285 := Tryd.func185.trans (congrArg some (by kernel_rfl))
  f286 := Tryd.func186.trans (congrArg some (by kernel_rfl))
  f317 := Tryd.func197.trans (congrArg some (by kernel_rfl))
  f318 := Tryd.func198.trans (congrArg some (by kernel_rfl))
  f319 := Tryd.func199.trans (congrArg some (by kernel_rfl))
  f320 := Tryd.func200.trans (congrArg some (by kernel_rfl))
  f337 := Tryd.func202.trans (congrArg some (by kernel_rfl))
  f338 := Tryd.func203.trans (congrArg some (by kernel_rfl))
  t0 := Tryd.underlying0
  a0 := Tryd.isAgg0
  z0 := Tryd.sizeOf0
  v0 := Tryd.zeroValue0
  t2 := Tryd.underlying2
  a2 := Tryd.isAgg2
  z2 := Tryd.sizeOf2
  v2 := Tryd.zeroValue2
  t3 := Tryd.underlying3
  a3 := Tryd.isAgg3
  z3 := Tryd.sizeOf3
  v3 := Tryd.zeroValue3
  t4 := Tryd.underlying4
  a4 := Tryd.isAgg4
  z4 := Tryd.sizeOf4
  v4 := Tryd.zeroValue4
  t5 := Tryd.underlying5
  a5 := Tryd.isAgg5
  z5 := Tryd.sizeOf5
  v5 := Tryd.zeroValue5
  t9 := Tryd.underlying9
  a9 := Tryd.isAgg9
  z9 := Tryd.sizeOf9
  v9 := Tryd.zeroValue9
  t20 := Tryd.underlying20
  a20 := Tryd.isAgg20
  z20 := Tryd.sizeOf20
  v20 := Tryd.zeroValue20
  t37 := Tryd.underlying57
  a37 := Tryd.isAgg57
  z37 := Tryd.sizeOf57
  v37 := Tryd.zeroValue57
  t46 := Tryd.underlying188
  a46 := Tryd.isAgg188
  z46 := Tryd.sizeOf188
  v46 := Tryd.zeroValue188
  t51 := Tryd.underlying205
  a51 := Tryd.isAgg205
  z51 := Tryd.sizeOf205
  v51 := Tryd.zeroValue205
  t53 := Tryd.underlying133
  a53 := Tryd.isAgg133
  z53 := Tryd.sizeOf133
  v53 := Tryd.zeroValue133
  t171 := Tryd.underlying209
  a171 := Tryd.isAgg209
  z171 := Tryd.sizeOf209
  v171 := Tryd.zeroValue209
  t173 := Tryd.underlying211
  a173 := Tryd.isAgg211
  z173 := Tryd.sizeOf211
  v173 := Tryd.zeroValue211
  t212 := Tryd.underlying230
  a212 := Tryd.isAgg230
  z212 := Tryd.sizeOf230
  v212 := Tryd.zeroValue230
  t213 := Tryd.underlying231
  a213 := Tryd.isAgg231
  z213 := Tryd.sizeOf231
  t232 := Tryd.underlying236
  a232 := Tryd.isAgg236
  z232 := Tryd.sizeOf236
  v232 := Tryd.zeroValue236
  t233 := Tryd.underlying237
  a233 := Tryd.isAgg237
  z233 := Tryd.sizeOf237
  v233 := Tryd.zeroValue237
  g17 := by kernel_rfl
  g18 := by kernel_rfl
  g19 := by kernel_rfl
  i0 := by kernel_rfl
  i2 := by kernel_rfl
  i3 := by kernel_rfl
  i4 := by kernel_rfl
  i5 := by kernel_rfl
  i9 := by kernel_rfl
  i20 := by kernel_rfl
  i37 := by kernel_rfl
  i46 := by kernel_rfl
  i51 := by kernel_rfl
  i53 := by kernel_rfl
  i171 := by kernel_rfl
  i173 := by kernel_rfl
  i212 := by kernel_rfl
  i232 := by kernel_rfl
  i233 := by kernel_rfl
  m17 := by kernel_rfl
  m18 := by kernel_rfl
  m19 := by kernel_rfl }
def lays156_ren : Go.Shelf.Ren := ⟨fun | 156 => 101 | 165 => 145 | 166 => 146 | 169 => 147 | 240 => 167 | 241 => 168 | 276 => 187 | 277 => 188 | n => n, fun | 31 => 29 | 9 => 9 | 3 => 3 | 4 => 4 | 0 => 0 | 20 => 20 | 72 => 171 | 76 => 175 | 70 => 169 | 37 => 57 | 75 => 174 | 127 => 193 | 164 => 213 | 5 => 5 | 80 => 177 | n => n, fun | n => n⟩
theorem lays156 : Go.Proofs.Lays.n156 Tryd.prog lays156_ren := {
  mixed := by kernel_rfl
  f156 := Tryd.func101.trans (congrArg some (by kernel_rfl))
  f165 := Tryd.func145.trans (congrArg some (by kernel_rfl))
  f166 := Tryd.func146.trans (congrArg some (by kernel_rfl))
  f169 := Tryd.func147.trans (congrArg some (by kernel_rfl))
  f240 := Tryd.func167.trans (congrArg some (by kernel_rfl))
  f241 := Tryd.func168.trans (congrArg some (by kernel_rfl))
  f276 := Tryd.func187.trans (congrArg some (by kernel_rfl))
  f277 := Tryd.func188.trans (congrArg some (by kernel_rfl))
  t0 := Tryd.underlying0
  a0 := Tryd.isAgg0
  z0 := Tryd.sizeOf0
  v0 := Tryd.zeroValue0
  t3 := Tryd.underlying3
  a3 := Tryd.isAgg3
  z3 := Tryd.sizeOf3
  v3 := Tryd.zeroValue3
  t4 := Tryd.underlying4
  a4 := Tryd.isAgg4
  z4 := Tryd.sizeOf4
  v4 := Tryd.zeroValue4
  t9 := Tryd.underlying9
  a9 := Tryd.isAgg9
  z9 := Tryd.sizeOf9
  v9 := Tryd.zeroValue9
  t20 := Tryd.underlying20
  a20 := Tryd.isAgg20
  z20 := Tryd.sizeOf20
  v20 := Tryd.zeroValue20
  t31 := Tryd.underlying29
  a31 := Tryd.isAgg29
  z31 := Tryd.sizeOf29
  v31 := Tryd.zeroValue29
  t37 := Tryd.underlying57
  a37 := Tryd.isAgg57
  z37 := Tryd.sizeOf57
  v37 := Tryd.zeroValue57
  t70 := Tryd.underlying169
  a70 := Tryd.isAgg169
  z70 := Tryd.sizeOf169
  v70 := Tryd.zeroValue169
  t72 := Tryd.underlying171
  a72 := Tryd.isAgg171
  z72 := Tryd.sizeOf171
  v72 := Tryd.zeroValue171
  t75 := Tryd.underlying174
  a75 := Tryd.isAgg174
  z75 := Tryd.sizeOf174
  v75 := Tryd.zeroValue174
  t76 := Tryd.underlying175
  a76 := Tryd.isAgg175
  z76 := Tryd.sizeOf175
  v76 := Tryd.zeroValue175
  t127 := Tryd.underlying193
  a127 := Tryd.isAgg193
  z127 := Tryd.sizeOf193
  v127 := Tryd.zeroValue193
  t164 := Tryd.underlying213
  a164 := Tryd.isAgg213
  z164 := Tryd.sizeOf213
  v164 := Tryd.zeroValue213 }
theorem Builder_Extra_156 : Builder.Extra Tryd.prog lays156_ren := {
  sizeBuilder := by kernel_rfl
  liesBuilder := by kernel_rfl
  t5 := Tryd.underlying5
  a5 := Tryd.isAgg5
  z5 := Tryd.sizeOf5
  v5 := Tryd.zeroValue5
  infoByte := by kernel_rfl
  cellsByte := by kernel_rfl
  sizeByte := by kernel_rfl
  neB5 := by decide }

open Go.Vai
set_option maxRecDepth 100000

theorem mixed : Tryd.prog.follows .mixedOrders = true := by kernel_rfl
/-- The listed variable's cells. -/
def conCells : List Value := [.string ⟨#[]⟩, .string ⟨#[]⟩, .bool false, .string ⟨#[112, 111, 105, 110, 116]⟩, .string ⟨#[]⟩, .bool false, .string ⟨#[108, 105, 110, 101]⟩, .string ⟨#[]⟩, .bool false, .string ⟨#[109, 101, 101, 116]⟩, .string ⟨#[108, 108]⟩, .bool false, .string ⟨#[109, 105, 100, 100, 108, 101]⟩, .string ⟨#[112, 112]⟩, .bool false, .string ⟨#[109, 105, 114, 114, 111, 114]⟩, .string ⟨#[108, 120]⟩, .bool false, .string ⟨#[116, 104, 114, 111, 117, 103, 104]⟩, .string ⟨#[112, 112]⟩, .bool false, .string ⟨#[111, 110, 116, 111]⟩, .string ⟨#[112, 112]⟩, .bool false, .string ⟨#[98, 105, 115, 101, 99, 116]⟩, .string ⟨#[108, 108]⟩, .bool true, .string ⟨#[115, 113, 117, 97, 114, 101]⟩, .string ⟨#[108, 112]⟩, .bool false, .string ⟨#[102, 111, 108, 100]⟩, .string ⟨#[112, 108, 112]⟩, .bool true, .string ⟨#[116, 119, 111]⟩, .string ⟨#[112, 108, 112, 108]⟩, .bool true, .string ⟨#[97, 99, 114, 111, 115, 115]⟩, .string ⟨#[112, 108, 108]⟩, .bool false]
/-- The cells of the table of powers. -/
noncomputable def powCells : List Value := Lib.pow10Tab.map fun n => .int .u64 n
noncomputable def C0 : Ctx := ⟨Tryd.prog, fun _ => none, fun h => match h with | 0 => some (conCells.map .v) | 5 => some (powCells.map .v) | _ => none⟩
theorem glob_else {k : Nat} (h : k ≠ 0) (h' : k ≠ 5) : C0.glob k = none := by
  show (match k with | 0 => some (conCells.map CV.v) | 5 => some (powCells.map CV.v) | _ => none) = none
  split
  · exact absurd rfl h
  · exact absurd rfl h'
  · rfl
theorem pow_tab {w : World} (h : TabsIn C0 w) : Lib.TabIs Tryd.prog w "internal/strconv.uint64pow10" .u64 Lib.pow10Tab := by
  obtain ⟨vs, e, fz, h1, h2⟩ := h 5 (powCells.map .v) rfl
  have hv : vs.toList = powCells := by
    have := congrArg (List.map fun c => match c with | CV.v x => x | _ => .bool true) h2
    simpa [List.map_map, Function.comp_def] using this.symm
  have hg : Tryd.prog.globalNamed "internal/strconv.uint64pow10" = some 5 := by kernel_rfl
  unfold Lib.TabIs
  simp only [World.var?, hg, Option.bind_some, h1]
  congr 1
  have : vs = powCells.toArray := by rw [← hv]
  rw [this]; rfl

noncomputable def g_strings_Trim (a0 a1 : ByteArray) : Option ByteArray :=
  if a0.size ≤ 9223372036854775807 ∧ a1.size < 4294967281 ∧ a1.data.toList.all (fun b => decide (b.toNat < 128)) = true then some ⟨(Lib.trimS a0.data.toList a1.data.toList).toArray⟩ else none
abbrev as_strings_Trim : List AX := [.val false .str, .val false .str]
noncomputable abbrev k_strings_Trim : Contract := .fx as_strings_Trim ByteArray (fun z => g_strings_Trim z.1 z.2.1) (fun b => (.one ⟨false, [(.v (.string b))]⟩, []))
theorem so_strings_Trim : Sound C0 89 k_strings_Trim := by
  refine Sound.simple (Go.Vai.Enters.of Tryd.func89 (by kernel_rfl) (by kernel_rfl)) rfl ?_
  rintro ⟨s, c, ⟨⟩⟩ b h w _
  have h : g_strings_Trim s c = some b := h
  unfold g_strings_Trim at h
  split at h
  · rename_i hc
    cases h
    refine (Any.strings_Trim_laid lays160 (by kernel_rfl) s c w hc.1 hc.2.1 (ascii_of_all hc.2.2)).mono ?_
    rintro e w' ⟨rfl, hb⟩
    exact ⟨_, rfl, plain_one _, hb⟩
  · cases h

noncomputable def g_strings_IndexByte (a0 : ByteArray) (a1 : Int) : Option Int := some (Lib.indexByte a0.data.toList a1.toNat.toUInt8)
abbrev as_strings_IndexByte : List AX := [.val false .str, .val false (.int .u8)]
noncomputable abbrev k_strings_IndexByte : Contract := .fx as_strings_IndexByte Int (fun z => g_strings_IndexByte z.1 z.2.1) (fun b => (.one ⟨false, [(.v (.int .i64 b))]⟩, []))
theorem so_strings_IndexByte : Sound C0 90 k_strings_IndexByte := by
  refine Sound.simple (Go.Vai.Enters.of Tryd.func90 (by kernel_rfl) (by kernel_rfl)) rfl ?_
  rintro ⟨s, c, ⟨⟩⟩ b h w _
  have h : g_strings_IndexByte s c = some b := h
  cases h
  refine (Any.strings_IndexByte lays137 s c w).mono ?_
  rintro e w' ⟨rfl, rfl⟩
  exact ⟨_, rfl, plain_one _, Go.RowKit.Below.refl _ _⟩
theorem below_grow (w : World) (k : Nat) (os : Array Obj) : Go.RowKit.Below w.heap.size w (Go.Sort.grow (w.drewN k) os) := by
  have h : (Go.Sort.grow (w.drewN k) os).heap = w.heap ++ os := rfl
  exact ⟨rfl, rfl, rfl, by rw [h]; simp, fun n hn => by rw [h, Array.getElem?_append, if_pos hn]⟩

noncomputable def g_strconv_FormatInt (a0 a1 : Int) : Option ByteArray :=
  if -9223372036854775808 ≤ a0 ∧ a0 ≤ 9223372036854775807 ∧ a1 = 10 then some ⟨(Lib.itoa a0).toArray⟩ else none
abbrev as_strconv_FormatInt : List AX := [.val false (.int .i64), .val false (.int .i64)]
noncomputable abbrev k_strconv_FormatInt : Contract := .fx as_strconv_FormatInt ByteArray (fun z => g_strconv_FormatInt z.1 z.2.1) (fun b => (.one ⟨false, [(.v (.string b))]⟩, []))
theorem so_strconv_FormatInt : Sound C0 144 k_strconv_FormatInt := by
  refine Sound.simple (Go.Vai.Enters.of Tryd.func144 (by kernel_rfl) (by kernel_rfl)) rfl ?_
  rintro ⟨n, c, ⟨⟩⟩ b hb w hw
  have hb' : g_strconv_FormatInt n c = some b := hb
  clear hb
  unfold g_strconv_FormatInt at hb'
  split at hb'
  · rename_i hc
    obtain ⟨h0, h1, h2⟩ := hc
    subst h2
    have hb2 := Option.some.inj hb'
    subst hb2
    refine (Any.strconv_FormatInt_10 laysM173 n h0 h1 w (pow_tab hw)).mono ?_
    rintro e w' ⟨rfl, k, os, rfl⟩
    exact ⟨_, rfl, plain_one _, below_grow w k os⟩
  · cases hb'

noncomputable def g_strings_Join (a0 : List ByteArray) (a1 : ByteArray) : Option ByteArray :=
  if a0.length ≤ 140737488355328 ∧ (Lib.join (a0.map (·.data.toList)) a1.data.toList).length ≤ 140737488355328 then some ⟨(Lib.join (a0.map (·.data.toList)) a1.data.toList).toArray⟩ else none
abbrev as_strings_Join : List AX := [.val false (.slice .str), .val false .str]
noncomputable abbrev k_strings_Join : Contract := .fx as_strings_Join ByteArray (fun z => g_strings_Join z.1 z.2.1) (fun b => (.one ⟨false, [(.v (.string b))]⟩, []))
theorem so_strings_Join : Sound C0 101 k_strings_Join := by
  refine Sound.strs (Go.Vai.Enters.of Tryd.func101 (by kernel_rfl) (by kernel_rfl)) ?_
  intro xs sep b hb A cap w _ hc hA
  have hb' : g_strings_Join xs sep = some b := hb
  clear hb
  unfold g_strings_Join at hb'
  split at hb'
  · rename_i hl
    have hb2 := Option.some.inj hb'
    subst hb2
    rcases hA with rfl | ⟨bk, o, rfl, hbk, hcells⟩
    · refine (Any.strings_Join_none lays156 Builder_Extra_156 A cap sep w).mono ?_
      rintro e w' ⟨rfl, rfl⟩
      exact ⟨_, rfl, plain_one _, Go.RowKit.Below.refl _ _⟩
    · refine (Any.strings_Join lays156 Builder_Extra_156 bk o cap xs sep w hcells hbk hl.1 hc hl.2).mono ?_
      rintro e w' ⟨rfl, hw⟩
      exact ⟨_, rfl, plain_one _, hw⟩
  · cases hb'
end Go.Proofs.YtjkljnflaifbhaaDoor
