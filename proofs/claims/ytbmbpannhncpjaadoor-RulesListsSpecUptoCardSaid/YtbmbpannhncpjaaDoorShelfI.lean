/-
  DERIVED: THE SHELF's CONTRACTS AT THIS DUMP, IN PLAIN WORDS (tools/lay-plain.mjs out of 'YtbmbpannhncpjaaDoorShelfI.lean', which tools/lay-shelf.mjs wrote): THE SAME DECLARATIONS UNDER THE SAME NAMES: 'import', 'namespace', 'open', 'def', 'theorem' AND NOTHING ELSE: no command of the shelf's: FOR A HAND-IN. Each laying: the table of numbers ('.._ren') and one theorem, a field a fact of the dump's own or the kernel's comparison; each contract: ONE APPLICATION.
-/
import Derived.Shelf.SortG.Plain
import Derived.Shelf.SortG.SortNone
import Derived.Ground.SlgnProg
import Derived.Test.YtbmbpannhncpjaaDoorProg
namespace Go.Proofs
open Go.Shelf
def Tryd.sortI_ren : Go.Shelf.Ren := ⟨fun | 53 => 59 | 64 => 66 | 63 => 68 | 78 => 80 | 79 => 81 | 70 => 82 | 71 => 83 | 72 => 84 | 73 => 85 | 74 => 86 | 75 => 87 | 59 => 88 | 76 => 89 | 77 => 90 | 88 => 98 | 89 => 94 | 90 => 95 | 91 => 99 | 92 => 100 | 68 => 53 | 96 => 102 | n => n, fun | 22 => 39 | 23 => 3 | 3 => 3 | 51 => 92 | 0 => 0 | 67 => 108 | 69 => 95 | 4 => 4 | 61 => 101 | 60 => 100 | 44 => 105 | 5 => 5 | 9 => 9 | 75 => 116 | 79 => 120 | 83 => 124 | 84 => 125 | n => n, fun | n => n⟩
theorem Tryd.sortI : Go.Proofs.SlLaysN.n53 Tryd.prog Tryd.sortI_ren := {
  mixed := by kernel_rfl
  f53 := ⟨Tryd.f59.name, by decide, Tryd.func59.trans (congrArg some (by kernel_rfl))⟩
  f59 := ⟨Tryd.f88.name, by decide, Tryd.func88.trans (congrArg some (by kernel_rfl))⟩
  f63 := ⟨Tryd.f68.name, by decide, Tryd.func68.trans (congrArg some (by kernel_rfl))⟩
  f64 := Tryd.func66.trans (congrArg some (by kernel_rfl))
  f68 := ⟨Tryd.f53.name, by decide, Tryd.func53.trans (congrArg some (by kernel_rfl))⟩
  f70 := ⟨Tryd.f82.name, by decide, Tryd.func82.trans (congrArg some (by kernel_rfl))⟩
  f71 := ⟨Tryd.f83.name, by decide, Tryd.func83.trans (congrArg some (by kernel_rfl))⟩
  f72 := ⟨Tryd.f84.name, by decide, Tryd.func84.trans (congrArg some (by kernel_rfl))⟩
  f73 := ⟨Tryd.f85.name, by decide, Tryd.func85.trans (congrArg some (by kernel_rfl))⟩
  f74 := ⟨Tryd.f86.name, by decide, Tryd.func86.trans (congrArg some (by kernel_rfl))⟩
  f75 := ⟨Tryd.f87.name, by decide, Tryd.func87.trans (congrArg some (by kernel_rfl))⟩
  f76 := ⟨Tryd.f89.name, by decide, Tryd.func89.trans (congrArg some (by kernel_rfl))⟩
  f77 := ⟨Tryd.f90.name, by decide, Tryd.func90.trans (congrArg some (by kernel_rfl))⟩
  f78 := Tryd.func80.trans (congrArg some (by kernel_rfl))
  f79 := Tryd.func81.trans (congrArg some (by kernel_rfl))
  f88 := ⟨Tryd.f98.name, by decide, Tryd.func98.trans (congrArg some (by kernel_rfl))⟩
  f89 := Tryd.func94.trans (congrArg some (by kernel_rfl))
  f90 := Tryd.func95.trans (congrArg some (by kernel_rfl))
  f91 := ⟨Tryd.f99.name, by decide, Tryd.func99.trans (congrArg some (by kernel_rfl))⟩
  f92 := ⟨Tryd.f100.name, by decide, Tryd.func100.trans (congrArg some (by kernel_rfl))⟩
  f96 := ⟨Tryd.f102.name, by decide, Tryd.func102.trans (congrArg some (by kernel_rfl))⟩
  t0 := Tryd.underlying0
  a0 := Tryd.isAgg0
  z0 := Tryd.sizeOf0
  v0 := Tryd.zeroValue0
  t3 := Tryd.underlying3
  a3 := Tryd.isAgg3
  z3 := Tryd.sizeOf3
  v3 := Tryd.zeroValue3
  t4 := Tryd.underlying4
  a4 := Tryd.isAgg4
  z4 := Tryd.sizeOf4
  v4 := Tryd.zeroValue4
  t5 := Tryd.underlying5
  a5 := Tryd.isAgg5
  z5 := Tryd.sizeOf5
  v5 := Tryd.zeroValue5
  t9 := Tryd.underlying9
  a9 := Tryd.isAgg9
  z9 := Tryd.sizeOf9
  v9 := Tryd.zeroValue9
  t22 := Tryd.underlying39
  a22 := Tryd.isAgg39
  z22 := Tryd.sizeOf39
  v22 := Tryd.zeroValue39
  t23 := Tryd.underlying3
  a23 := Tryd.isAgg3
  z23 := Tryd.sizeOf3
  v23 := Tryd.zeroValue3
  t44 := Tryd.underlying105
  a44 := Tryd.isAgg105
  z44 := Tryd.sizeOf105
  v44 := Tryd.zeroValue105
  t51 := Tryd.underlying92
  a51 := Tryd.isAgg92
  z51 := Tryd.sizeOf92
  v51 := Tryd.zeroValue92
  t60 := Tryd.underlying100
  a60 := Tryd.isAgg100
  z60 := Tryd.sizeOf100
  v60 := Tryd.zeroValue100
  t61 := Tryd.underlying101
  a61 := Tryd.isAgg101
  z61 := Tryd.sizeOf101
  v61 := Tryd.zeroValue101
  t67 := Tryd.underlying108
  a67 := Tryd.isAgg108
  z67 := Tryd.sizeOf108
  v67 := Tryd.zeroValue108
  t69 := Tryd.underlying95
  a69 := Tryd.isAgg95
  z69 := Tryd.sizeOf95
  v69 := Tryd.zeroValue95
  t75 := Tryd.underlying116
  a75 := Tryd.isAgg116
  z75 := Tryd.sizeOf116
  v75 := Tryd.zeroValue116
  t79 := Tryd.underlying120
  a79 := Tryd.isAgg120
  z79 := Tryd.sizeOf120
  v79 := Tryd.zeroValue120
  t83 := Tryd.underlying124
  a83 := Tryd.isAgg124
  z83 := Tryd.sizeOf124
  v83 := Tryd.zeroValue124
  t84 := Tryd.underlying125
  a84 := Tryd.isAgg125
  z84 := Tryd.sizeOf125
  v84 := Tryd.zeroValue125 }
end Go.Proofs
