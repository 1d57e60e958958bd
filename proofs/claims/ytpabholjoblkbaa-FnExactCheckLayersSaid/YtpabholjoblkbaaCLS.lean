/- The library's sort at the program. No conditions. -/
import Derived.Test.YtpabholjoblkbaaW1P
import Derived.Test.YtpabholjoblkbaaVaiS
import Derived.Shelf.SortG.Plain
import Derived.Ground.SlgnProg
namespace Go.Proofs.Ytpabholjoblkbaa
open Go.Shelf
def laysSort_ren : Go.Shelf.Ren := ⟨fun | 53 => 75 | 64 => 86 | 63 => 85 | 78 => 100 | 79 => 101 | 70 => 91 | 71 => 92 | 72 => 93 | 73 => 94 | 74 => 95 | 75 => 96 | 59 => 97 | 76 => 98 | 77 => 99 | 88 => 103 | 89 => 104 | 90 => 105 | 91 => 106 | 92 => 107 | 68 => 108 | 96 => 109 | n => n, fun | 22 => 22 | 23 => 2 | 3 => 3 | 51 => 67 | 0 => 0 | 67 => 106 | 69 => 108 | 4 => 4 | 61 => 98 | 60 => 97 | 44 => 103 | 5 => 5 | 9 => 9 | 75 => 109 | 79 => 113 | 83 => 115 | 84 => 116 | n => n, fun | n => n⟩
theorem laysSort : Go.Proofs.SlLaysN.n53 Try.prog laysSort_ren := {
  mixed := by kernel_rfl
  f53 := ⟨Try.f75.name, by decide, Try.func75.trans (congrArg some (by kernel_rfl))⟩
  f59 := ⟨Try.f97.name, by decide, Try.func97.trans (congrArg some (by kernel_rfl))⟩
  f63 := ⟨Try.f85.name, by decide, Try.func85.trans (congrArg some (by kernel_rfl))⟩
  f64 := Try.func86.trans (congrArg some (by kernel_rfl))
  f68 := ⟨Try.f108.name, by decide, Try.func108.trans (congrArg some (by kernel_rfl))⟩
  f70 := ⟨Try.f91.name, by decide, Try.func91.trans (congrArg some (by kernel_rfl))⟩
  f71 := ⟨Try.f92.name, by decide, Try.func92.trans (congrArg some (by kernel_rfl))⟩
  f72 := ⟨Try.f93.name, by decide, Try.func93.trans (congrArg some (by kernel_rfl))⟩
  f73 := ⟨Try.f94.name, by decide, Try.func94.trans (congrArg some (by kernel_rfl))⟩
  f74 := ⟨Try.f95.name, by decide, Try.func95.trans (congrArg some (by kernel_rfl))⟩
  f75 := ⟨Try.f96.name, by decide, Try.func96.trans (congrArg some (by kernel_rfl))⟩
  f76 := ⟨Try.f98.name, by decide, Try.func98.trans (congrArg some (by kernel_rfl))⟩
  f77 := ⟨Try.f99.name, by decide, Try.func99.trans (congrArg some (by kernel_rfl))⟩
  f78 := Try.func100.trans (congrArg some (by kernel_rfl))
  f79 := Try.func101.trans (congrArg some (by kernel_rfl))
  f88 := ⟨Try.f103.name, by decide, Try.func103.trans (congrArg some (by kernel_rfl))⟩
  f89 := Try.func104.trans (congrArg some (by kernel_rfl))
  f90 := Try.func105.trans (congrArg some (by kernel_rfl))
  f91 := ⟨Try.f106.name, by decide, Try.func106.trans (congrArg some (by kernel_rfl))⟩
  f92 := ⟨Try.f107.name, by decide, Try.func107.trans (congrArg some (by kernel_rfl))⟩
  f96 := ⟨Try.f109.name, by decide, Try.func109.trans (congrArg some (by kernel_rfl))⟩
  t0 := Try.underlying0
  a0 := Try.isAgg0
  z0 := Try.sizeOf0
  v0 := Try.zeroValue0
  t3 := Try.underlying3
  a3 := Try.isAgg3
  z3 := Try.sizeOf3
  v3 := Try.zeroValue3
  t4 := Try.underlying4
  a4 := Try.isAgg4
  z4 := Try.sizeOf4
  v4 := Try.zeroValue4
  t5 := Try.underlying5
  a5 := Try.isAgg5
  z5 := Try.sizeOf5
  v5 := Try.zeroValue5
  t9 := Try.underlying9
  a9 := Try.isAgg9
  z9 := Try.sizeOf9
  v9 := Try.zeroValue9
  t22 := Try.underlying22
  a22 := Try.isAgg22
  z22 := Try.sizeOf22
  v22 := Try.zeroValue22
  t23 := Try.underlying2
  a23 := Try.isAgg2
  z23 := Try.sizeOf2
  v23 := Try.zeroValue2
  t44 := Try.underlying103
  a44 := Try.isAgg103
  z44 := Try.sizeOf103
  v44 := Try.zeroValue103
  t51 := Try.underlying67
  a51 := Try.isAgg67
  z51 := Try.sizeOf67
  v51 := Try.zeroValue67
  t60 := Try.underlying97
  a60 := Try.isAgg97
  z60 := Try.sizeOf97
  v60 := Try.zeroValue97
  t61 := Try.underlying98
  a61 := Try.isAgg98
  z61 := Try.sizeOf98
  v61 := Try.zeroValue98
  t67 := Try.underlying106
  a67 := Try.isAgg106
  z67 := Try.sizeOf106
  v67 := Try.zeroValue106
  t69 := Try.underlying108
  a69 := Try.isAgg108
  z69 := Try.sizeOf108
  v69 := Try.zeroValue108
  t75 := Try.underlying109
  a75 := Try.isAgg109
  z75 := Try.sizeOf109
  v75 := Try.zeroValue109
  t79 := Try.underlying113
  a79 := Try.isAgg113
  z79 := Try.sizeOf113
  v79 := Try.zeroValue113
  t83 := Try.underlying115
  a83 := Try.isAgg115
  z83 := Try.sizeOf115
  v83 := Try.zeroValue115
  t84 := Try.underlying116
  a84 := Try.isAgg116
  z84 := Try.sizeOf116
  v84 := Try.zeroValue116 }

open Go.Vai
theorem enters75 : Go.Vai.Enters C0.P 75 := ⟨Try.f75, codeOf Try.f75, Try.func75, by kernel_rfl, by kernel_rfl⟩

theorem so_sortAll : Sound C0 75 (.fx [.io (.int .i64)] (List Int) (fun z => srt z.1) (fun b => (.tup [], [.own (.int .i64) b]))) :=
  sortSound enters75 fun blk off cap zs w h1 h2 h3 => AnyG.slices_Sort_int laysSort blk off cap zs w h1 h2 h3
end Go.Proofs.Ytpabholjoblkbaa
