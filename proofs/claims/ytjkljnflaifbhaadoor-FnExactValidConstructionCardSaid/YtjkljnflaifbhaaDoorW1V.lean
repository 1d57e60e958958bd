/- The seat's program, as the interpreter is told it, and two functions of the library by their contracts. No conditions. -/
import Derived.Test.YtjkljnflaifbhaaDoorVaiP
import Derived.Test.YtjkljnflaifbhaaDoorRows
import Derived.ProofKit
import Derived.Shelf.Strings.SlTrimAscii
import Derived.Shelf.Small.Strs
import Derived.Ground.NamesProg
namespace Go.Proofs.YtjkljnflaifbhaaDoor
open Go.Shelf
def lays160_ren : Go.Shelf.Ren := ⟨fun | 160 => 89 | 232 => 135 | 231 => 134 | 227 => 136 | 234 => 138 | 233 => 137 | 236 => 140 | 235 => 139 | 228 => 160 | 271 => 163 | 151 => 162 | 197 => 161 | 120 => 182 | 152 => 181 | 260 => 180 | 137 => 90 | 119 => 194 | 224 => 195 | 225 => 196 | 217 => 141 | 266 => 164 | n => n, fun | 9 => 9 | 4 => 4 | 3 => 3 | 5 => 5 | 117 => 163 | 116 => 162 | 0 => 0 | 124 => 166 | 21 => 21 | 105 => 190 | 46 => 188 | 119 => 222 | 139 => 225 | 138 => 224 | n => n, fun | 3 => 3 | 4 => 4 | n => n⟩
theorem lays160 : Go.Proofs.Lays.n160 Tryd.prog lays160_ren := {
  mixed := by kernel_rfl
  f119 := Tryd.func194.trans (congrArg some (by kernel_rfl))
  f120 := Tryd.func182.trans (congrArg some (by kernel_rfl))
  f137 := Tryd.func90.trans (congrArg some (by kernel_rfl))
  f151 := Tryd.func162.trans (congrArg some (by kernel_rfl))
  f152 := Tryd.func181.trans (congrArg some (by kernel_rfl))
  f160 := Tryd.func89.trans (congrArg some (by kernel_rfl))
  f197 := Tryd.func161.trans (congrArg some (by kernel_rfl))
  f217 := Tryd.func141.trans (congrArg some (by kernel_rfl))
  f224 := Tryd.func195.trans (congrArg some (by kernel_rfl))
  f225 := Tryd.func196.trans (congrArg some (by kernel_rfl))
  f227 := Tryd.func136.trans (congrArg some (by kernel_rfl))
  f228 := Tryd.func160.trans (congrArg some (by kernel_rfl))
  f231 := Tryd.func134.trans (congrArg some (by kernel_rfl))
  f232 := Tryd.func135.trans (congrArg some (by kernel_rfl))
  f233 := Tryd.func137.trans (congrArg some (by kernel_rfl))
  f234 := Tryd.func138.trans (congrArg some (by kernel_rfl))
  f235 := Tryd.func139.trans (congrArg some (by kernel_rfl))
  f236 := Tryd.func140.trans (congrArg some (by kernel_rfl))
  f260 := Tryd.func180.trans (congrArg some (by kernel_rfl))
  f266 := Tryd.func164.trans (congrArg some (by kernel_rfl))
  f271 := Tryd.func163.trans (congrArg some (by kernel_rfl))
  t0 := Tryd.underlying0
  a0 := Tryd.isAgg0
  z0 := Tryd.sizeOf0
  v0 := Tryd.zeroValue0
  t3 := Tryd.underlying3
  a3 := Tryd.isAgg3
  z3 := Tryd.sizeOf3
  v3 := Tryd.zeroValue3
  t4 := Tryd.underlying4
  a4 := Tryd.isAgg4
  z4 := Tryd.sizeOf4
  v4 := Tryd.zeroValue4
  t5 := Tryd.underlying5
  a5 := Tryd.isAgg5
  z5 := Tryd.sizeOf5
  v5 := Tryd.zeroValue5
  t9 := Tryd.underlying9
  a9 := Tryd.isAgg9
  z9 := Tryd.sizeOf9
  v9 := Tryd.zeroValue9
  t21 := Tryd.underlying21
  a21 := Tryd.isAgg21
  z21 := Tryd.sizeOf21
  v21 := Tryd.zeroValue21
  t46 := Tryd.underlying188
  a46 := Tryd.isAgg188
  z46 := Tryd.sizeOf188
  v46 := Tryd.zeroValue188
  t105 := Tryd.underlying190
  a105 := Tryd.isAgg190
  z105 := Tryd.sizeOf190
  v105 := Tryd.zeroValue190
  t116 := Tryd.underlying162
  a116 := Tryd.isAgg162
  z116 := Tryd.sizeOf162
  t117 := Tryd.underlying163
  a117 := Tryd.isAgg163
  z117 := Tryd.sizeOf163
  v117 := Tryd.zeroValue163
  t119 := Tryd.underlying222
  a119 := Tryd.isAgg222
  z119 := Tryd.sizeOf222
  t124 := Tryd.underlying166
  a124 := Tryd.isAgg166
  z124 := Tryd.sizeOf166
  v124 := Tryd.zeroValue166
  t138 := Tryd.underlying224
  a138 := Tryd.isAgg224
  z138 := Tryd.sizeOf224
  v138 := Tryd.zeroValue224
  t139 := Tryd.underlying225
  a139 := Tryd.isAgg225
  z139 := Tryd.sizeOf225
  v139 := Tryd.zeroValue225
  g3 := by kernel_rfl
  g4 := by kernel_rfl }
def lays137_ren : Go.Shelf.Ren := ⟨fun | 137 => 90 | 217 => 141 | 266 => 164 | n => n, fun | 9 => 9 | 5 => 5 | 3 => 3 | n => n, fun | n => n⟩
theorem lays137 : Go.Proofs.Lays.n137 Tryd.prog lays137_ren := {
  mixed := by kernel_rfl
  f137 := Tryd.func90.trans (congrArg some (by kernel_rfl))
  f217 := Tryd.func141.trans (congrArg some (by kernel_rfl))
  f266 := Tryd.func164.trans (congrArg some (by kernel_rfl))
  t3 := Tryd.underlying3
  a3 := Tryd.isAgg3
  z3 := Tryd.sizeOf3
  v3 := Tryd.zeroValue3
  t5 := Tryd.underlying5
  a5 := Tryd.isAgg5
  z5 := Tryd.sizeOf5
  v5 := Tryd.zeroValue5
  t9 := Tryd.underlying9
  a9 := Tryd.isAgg9
  z9 := Tryd.sizeOf9
  v9 := Tryd.zeroValue9 }

open Go.Vai
set_option maxRecDepth 100000

theorem mixed : Tryd.prog.follows .mixedOrders = true := by kernel_rfl
/-- The listed variable's cells. -/
def conCells : List Value := [.string ⟨#[]⟩, .string ⟨#[]⟩, .bool false, .string ⟨#[112, 111, 105, 110, 116]⟩, .string ⟨#[]⟩, .bool false, .string ⟨#[108, 105, 110, 101]⟩, .string ⟨#[]⟩, .bool false, .string ⟨#[109, 101, 101, 116]⟩, .string ⟨#[108, 108]⟩, .bool false, .string ⟨#[109, 105, 100, 100, 108, 101]⟩, .string ⟨#[112, 112]⟩, .bool false, .string ⟨#[109, 105, 114, 114, 111, 114]⟩, .string ⟨#[108, 120]⟩, .bool false, .string ⟨#[116, 104, 114, 111, 117, 103, 104]⟩, .string ⟨#[112, 112]⟩, .bool false, .string ⟨#[111, 110, 116, 111]⟩, .string ⟨#[112, 112]⟩, .bool false, .string ⟨#[98, 105, 115, 101, 99, 116]⟩, .string ⟨#[108, 108]⟩, .bool true, .string ⟨#[115, 113, 117, 97, 114, 101]⟩, .string ⟨#[108, 112]⟩, .bool false, .string ⟨#[102, 111, 108, 100]⟩, .string ⟨#[112, 108, 112]⟩, .bool true, .string ⟨#[116, 119, 111]⟩, .string ⟨#[112, 108, 112, 108]⟩, .bool true, .string ⟨#[97, 99, 114, 111, 115, 115]⟩, .string ⟨#[112, 108, 108]⟩, .bool false]
noncomputable def C0 : Ctx := ⟨Tryd.prog, fun _ => none, fun h => match h with | 0 => some (conCells.map .v) | _ => none⟩

theorem glob_else {k : Nat} (h : k ≠ 0) : C0.glob k = none := by
  cases k with
  | zero => exact absurd rfl h
  | succ k => rfl

noncomputable def g_strings_Trim (a0 a1 : ByteArray) : Option ByteArray :=
  if a0.size ≤ 9223372036854775807 ∧ a1.size < 4294967281 ∧ a1.data.toList.all (fun b => decide (b.toNat < 128)) = true then some ⟨(Lib.trimS a0.data.toList a1.data.toList).toArray⟩ else none
abbrev as_strings_Trim : List AX := [.val false .str, .val false .str]
noncomputable abbrev k_strings_Trim : Contract := .fx as_strings_Trim ByteArray (fun z => g_strings_Trim z.1 z.2.1) (fun b => (.one ⟨false, [(.v (.string b))]⟩, []))
theorem so_strings_Trim : Sound C0 89 k_strings_Trim := by
  refine Sound.simple (Go.Vai.Enters.of Tryd.func89 (by kernel_rfl) (by kernel_rfl)) rfl ?_
  rintro ⟨s, c, ⟨⟩⟩ b h w _
  have h : g_strings_Trim s c = some b := h
  unfold g_strings_Trim at h
  split at h
  · rename_i hc
    cases h
    refine (Any.strings_Trim_laid lays160 (by kernel_rfl) s c w hc.1 hc.2.1 (ascii_of_all hc.2.2)).mono ?_
    rintro e w' ⟨rfl, hb⟩
    exact ⟨_, rfl, plain_one _, hb⟩
  · cases h

noncomputable def g_strings_IndexByte (a0 : ByteArray) (a1 : Int) : Option Int := some (Lib.indexByte a0.data.toList a1.toNat.toUInt8)
abbrev as_strings_IndexByte : List AX := [.val false .str, .val false (.int .u8)]
noncomputable abbrev k_strings_IndexByte : Contract := .fx as_strings_IndexByte Int (fun z => g_strings_IndexByte z.1 z.2.1) (fun b => (.one ⟨false, [(.v (.int .i64 b))]⟩, []))
theorem so_strings_IndexByte : Sound C0 90 k_strings_IndexByte := by
  refine Sound.simple (Go.Vai.Enters.of Tryd.func90 (by kernel_rfl) (by kernel_rfl)) rfl ?_
  rintro ⟨s, c, ⟨⟩⟩ b h w _
  have h : g_strings_IndexByte s c = some b := h
  cases h
  refine (Any.strings_IndexByte lays137 s c w).mono ?_
  rintro e w' ⟨rfl, rfl⟩
  exact ⟨_, rfl, plain_one _, Go.RowKit.Below.refl _ _⟩
end Go.Proofs.YtjkljnflaifbhaaDoor
