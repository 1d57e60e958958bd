/- No conditions. -/
import Derived.Test.YtjkljnflaifbhaaGreatDoorVaiP
import Derived.Test.YtjkljnflaifbhaaGreatDoorVaiJ
import Derived.Test.YtjkljnflaifbhaaGreatDoorRows
import Derived.ProofKit
import Derived.Shelf.Strings.SlTrimAscii
import Derived.Shelf.Small.Strs
import Derived.Ground.NamesProg
namespace Go.Proofs.YtjkljnflaifbhaaGreatDoor
open Go.Shelf
def YZ:Go.Shelf.Ren:=⟨fun|160=>182|232=>244|231=>243|227=>245|234=>247|233=>246|236=>249|235=>248|228=>293|271=>295|151=>294|197=>231|120=>321|152=>314|260=>279|137=>183|119=>327|224=>281|225=>280|217=>250|266=>296|n=>n,fun|9=>9|4=>4|3=>3|5=>5|117=>254|116=>253|0=>0|124=>257|21=>21|105=>245|46=>238|119=>314|139=>317|138=>316|n=>n,fun|3=>3|4=>4|n=>n⟩
theorem adG:Go.Proofs.Lays.n160 Tryz.prog YZ:={
 mixed:=by kernel_rfl
 f119:=Tryz.func327.trans (congrArg some (by kernel_rfl))
 f120:=Tryz.func321.trans (congrArg some (by kernel_rfl))
 f137:=Tryz.func183.trans (congrArg some (by kernel_rfl))
 f151:=Tryz.func294.trans (congrArg some (by kernel_rfl))
 f152:=Tryz.func314.trans (congrArg some (by kernel_rfl))
 f160:=Tryz.func182.trans (congrArg some (by kernel_rfl))
 f197:=Tryz.func231.trans (congrArg some (by kernel_rfl))
 f217:=Tryz.func250.trans (congrArg some (by kernel_rfl))
 f224:=Tryz.func281.trans (congrArg some (by kernel_rfl))
 f225:=Tryz.func280.trans (congrArg some (by kernel_rfl))
 f227:=Tryz.func245.trans (congrArg some (by kernel_rfl))
 f228:=Tryz.func293.trans (congrArg some (by kernel_rfl))
 f231:=Tryz.func243.trans (congrArg some (by kernel_rfl))
 f232:=Tryz.func244.trans (congrArg some (by kernel_rfl))
 f233:=Tryz.func246.trans (congrArg some (by kernel_rfl))
 f234:=Tryz.func247.trans (congrArg some (by kernel_rfl))
 f235:=Tryz.func248.trans (congrArg some (by kernel_rfl))
 f236:=Tryz.func249.trans (congrArg some (by kernel_rfl))
 f260:=Tryz.func279.trans (congrArg some (by kernel_rfl))
 f266:=Tryz.func296.trans (congrArg some (by kernel_rfl))
 f271:=Tryz.func295.trans (congrArg some (by kernel_rfl))
 t0:=Tryz.underlying0
 a0:=Tryz.isAgg0
 z0:=Tryz.sizeOf0
 v0:=Tryz.zeroValue0
 t3:=Tryz.underlying3
 a3:=Tryz.isAgg3
 z3:=Tryz.sizeOf3
 v3:=Tryz.zeroValue3
 t4:=Tryz.underlying4
 a4:=Tryz.isAgg4
 z4:=Tryz.sizeOf4
 v4:=Tryz.zeroValue4
 t5:=Tryz.underlying5
 a5:=Tryz.isAgg5
 z5:=Tryz.sizeOf5
 v5:=Tryz.zeroValue5
 t9:=Tryz.underlying9
 a9:=Tryz.isAgg9
 z9:=Tryz.sizeOf9
 v9:=Tryz.zeroValue9
 t21:=Tryz.underlying21
 a21:=Tryz.isAgg21
 z21:=Tryz.sizeOf21
 v21:=Tryz.zeroValue21
 t46:=Tryz.underlying238
 a46:=Tryz.isAgg238
 z46:=Tryz.sizeOf238
 v46:=Tryz.zeroValue238
 t105:=Tryz.underlying245
 a105:=Tryz.isAgg245
 z105:=Tryz.sizeOf245
 v105:=Tryz.zeroValue245
 t116:=Tryz.underlying253
 a116:=Tryz.isAgg253
 z116:=Tryz.sizeOf253
 t117:=Tryz.underlying254
 a117:=Tryz.isAgg254
 z117:=Tryz.sizeOf254
 v117:=Tryz.zeroValue254
 t119:=Tryz.underlying314
 a119:=Tryz.isAgg314
 z119:=Tryz.sizeOf314
 t124:=Tryz.underlying257
 a124:=Tryz.isAgg257
 z124:=Tryz.sizeOf257
 v124:=Tryz.zeroValue257
 t138:=Tryz.underlying316
 a138:=Tryz.isAgg316
 z138:=Tryz.sizeOf316
 v138:=Tryz.zeroValue316
 t139:=Tryz.underlying317
 a139:=Tryz.isAgg317
 z139:=Tryz.sizeOf317
 v139:=Tryz.zeroValue317
 g3:=by kernel_rfl
 g4:=by kernel_rfl}
def YY:Go.Shelf.Ren:=⟨fun|137=>183|217=>250|266=>296|n=>n,fun|9=>9|5=>5|3=>3|n=>n,fun|n=>n⟩
theorem adF:Go.Proofs.Lays.n137 Tryz.prog YY:={
 mixed:=by kernel_rfl
 f137:=Tryz.func183.trans (congrArg some (by kernel_rfl))
 f217:=Tryz.func250.trans (congrArg some (by kernel_rfl))
 f266:=Tryz.func296.trans (congrArg some (by kernel_rfl))
 t3:=Tryz.underlying3
 a3:=Tryz.isAgg3
 z3:=Tryz.sizeOf3
 v3:=Tryz.zeroValue3
 t5:=Tryz.underlying5
 a5:=Tryz.isAgg5
 z5:=Tryz.sizeOf5
 v5:=Tryz.zeroValue5
 t9:=Tryz.underlying9
 a9:=Tryz.isAgg9
 z9:=Tryz.sizeOf9
 v9:=Tryz.zeroValue9}
open Go.Vai
set_option maxRecDepth 100000
theorem mixed:Tryz.prog.follows .mixedOrders=true:=by kernel_rfl
def Yx:List Value:=[.string ⟨#[]⟩, .string ⟨#[]⟩, .bool false, .string ⟨#[112,111,105,110,116]⟩, .string ⟨#[]⟩, .bool false, .string ⟨#[108,105,110,101]⟩, .string ⟨#[]⟩, .bool false, .string ⟨#[109,101,101,116]⟩, .string ⟨#[108,108]⟩, .bool false, .string ⟨#[109,105,100,100,108,101]⟩, .string ⟨#[112,112]⟩, .bool false, .string ⟨#[109,105,114,114,111,114]⟩, .string ⟨#[108,120]⟩, .bool false, .string ⟨#[116,104,114,111,117,103,104]⟩, .string ⟨#[112,112]⟩, .bool false, .string ⟨#[111,110,116,111]⟩, .string ⟨#[112,112]⟩, .bool false, .string ⟨#[98,105,115,101,99,116]⟩, .string ⟨#[108,108]⟩, .bool true, .string ⟨#[115,113,117,97,114,101]⟩, .string ⟨#[108,112]⟩, .bool false, .string ⟨#[102,111,108,100]⟩, .string ⟨#[112,108,112]⟩, .bool true, .string ⟨#[116,119,111]⟩, .string ⟨#[112,108,112,108]⟩, .bool true, .string ⟨#[97,99,114,111,115,115]⟩, .string ⟨#[112,108,108]⟩, .bool false]
def Zv:List Value:=[.int .i64 1, .int .i64 0, .int .i64 0, .int .i64 0, .int .i64 0, .int .i64 0, .int .i64 1, .int .i64 0, .int .i64 0, .int .i64 (-1), .int .i64 1, .int .i64 0, .int .i64 1, .int .i64 0, .int .i64 0, .int .i64 1, .int .i64 0, .int .i64 0, .int .i64 (-1), .int .i64 1, .int .i64 0, .int .i64 1, .int .i64 0, .int .i64 0, .int .i64 0, .int .i64 0, .int .i64 0, .int .i64 1, .int .i64 0, .int .i64 0, .int .i64 1, .int .i64 (-1), .int .i64 0, .int .i64 1, .int .i64 0, .int .i64 0, .int .i64 (-1), .int .i64 0, .int .i64 0, .int .i64 1, .int .i64 0, .int .i64 0, .int .i64 (-1), .int .i64 0, .int .i64 0, .int .i64 (-1), .int .i64 1, .int .i64 0]
noncomputable def C0:gY:={P:=Tryz.prog,ρ:=fun _=>none,glob:=fun h=>match h with|0=>some (Yx.map .v)|1=>some (Zv.map .v)|_=>none}
theorem abn{k:Nat}(h:k≠0)(h':k≠1):C0.glob k=none:=by
 match k,h,h' with
 |0,h,h'=>first|exact absurd rfl h|exact absurd rfl h'|rfl
 |1,h,h'=>first|exact absurd rfl h|exact absurd rfl h'|rfl
 |2,h,h'=>first|exact absurd rfl h|exact absurd rfl h'|rfl
 |3,h,h'=>first|exact absurd rfl h|exact absurd rfl h'|rfl
 |_+4,_,_=>rfl
noncomputable def uI(a0 a1:ByteArray):Option ByteArray:=
 if a0.size<=9223372036854775807/\a1.size<4294967281/\a1.data.toList.all (fun b=>decide (b.toNat<128))=true then some ⟨(Lib.trimS a0.data.toList a1.data.toList).toArray⟩else none
abbrev Sl:List AX:=[.val false .str, .val false .str]
noncomputable abbrev Uw:af:=.fx Sl ByteArray (fun z=>uI z.1 z.2.1) (fun b=>(.one ⟨false,[(.v (.string b))]⟩,[]))
theorem Tn:ag C0 182 Uw:=by
 refine ag.simple (Go.Vai.nu.of Tryz.func182 (by kernel_rfl) (by kernel_rfl)) rfl ?_
 rintro ⟨s,c,⟨⟩⟩ b h w _
 have h:uI s c=some b:=h
 unfold uI at h
 split at h
 ·rename_i hc
  cases h
  refine(Any.strings_Trim_laid adG (by kernel_rfl) s c w hc.1 hc.2.1 (ascii_of_all hc.2.2)).mono ?_
  rintro e w' ⟨rfl,hb⟩
  exact⟨_,rfl,WL _,hb⟩
 ·cases h
noncomputable def qT(a0:ByteArray)(a1:Int):Option Int:=some (Lib.indexByte a0.data.toList a1.toNat.toUInt8)
abbrev JQ:List AX:=[.val false .str, .val false (.int .u8)]
noncomputable abbrev LH:af:=.fx JQ Int (fun z=>qT z.1 z.2.1) (fun b=>(.one ⟨false,[(.v (.int .i64 b))]⟩,[]))
theorem K0:ag C0 183 LH:=by
 refine ag.simple (Go.Vai.nu.of Tryz.func183 (by kernel_rfl) (by kernel_rfl)) rfl ?_
 rintro ⟨s,c,⟨⟩⟩ b h w _
 have h:qT s c=some b:=h
 cases h
 refine(Any.strings_IndexByte adF s c w).mono ?_
 rintro e w' ⟨rfl,rfl⟩
 exact⟨_,rfl,WL _,Go.RowKit.Below.refl _ _⟩
end Go.Proofs.YtjkljnflaifbhaaGreatDoor
