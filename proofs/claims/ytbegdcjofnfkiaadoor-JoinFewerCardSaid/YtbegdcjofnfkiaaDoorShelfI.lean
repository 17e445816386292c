/-
  DERIVED: THE SHELF's CONTRACTS AT THIS DUMP, IN PLAIN WORDS (tools/lay-plain.mjs out of 'YtbegdcjofnfkiaaDoorShelfI.lean', which tools/lay-shelf.mjs wrote): THE SAME DECLARATIONS UNDER THE SAME NAMES: 'import', 'namespace', 'open', 'def', 'theorem' AND NOTHING ELSE: no command of the shelf's: FOR A HAND-IN. Each laying: the table of numbers ('.._ren') and one theorem, a field a fact of the dump's own or the kernel's comparison; each contract: ONE APPLICATION.
-/
import Derived.Shelf.SortG.Plain
import Derived.Shelf.SortG.SortNone
import Derived.Ground.SlgnProg
import Derived.Test.YtbegdcjofnfkiaaDoorProg
namespace Go.Proofs
open Go.Shelf
def Tryd.sortI_ren : Go.Shelf.Ren := ⟨fun | 53 => 52 | 64 => 49 | 63 => 77 | 78 => 73 | 79 => 74 | 70 => 85 | 71 => 86 | 72 => 87 | 73 => 88 | 74 => 89 | 75 => 90 | 59 => 91 | 76 => 92 | 77 => 93 | 88 => 97 | 89 => 81 | 90 => 82 | 91 => 98 | 92 => 99 | 68 => 75 | 96 => 101 | n => n, fun | 22 => 23 | 23 => 3 | 3 => 3 | 51 => 60 | 0 => 0 | 67 => 135 | 69 => 137 | 4 => 4 | 61 => 129 | 60 => 128 | 44 => 121 | 5 => 5 | 9 => 9 | 75 => 144 | 79 => 98 | 83 => 155 | 84 => 156 | n => n, fun | n => n⟩
theorem Tryd.sortI : Go.Proofs.SlLaysN.n53 Tryd.prog Tryd.sortI_ren := {
  mixed := by kernel_rfl
  f53 := ⟨Tryd.f52.name, by decide, Tryd.func52.trans (congrArg some (by kernel_rfl))⟩
  f59 := ⟨Tryd.f91.name, by decide, Tryd.func91.trans (congrArg some (by kernel_rfl))⟩
  f63 := ⟨Tryd.f77.name, by decide, Tryd.func77.trans (congrArg some (by kernel_rfl))⟩
  f64 := Tryd.func49.trans (congrArg some (by kernel_rfl))
  f68 := ⟨Tryd.f75.name, by decide, Tryd.func75.trans (congrArg some (by kernel_rfl))⟩
  f70 := ⟨Tryd.f85.name, by decide, Tryd.func85.trans (congrArg some (by kernel_rfl))⟩
  f71 := ⟨Tryd.f86.name, by decide, Tryd.func86.trans (congrArg some (by kernel_rfl))⟩
  f72 := ⟨Tryd.f87.name, by decide, Tryd.func87.trans (congrArg some (by kernel_rfl))⟩
  f73 := ⟨Tryd.f88.name, by decide, Tryd.func88.trans (congrArg some (by kernel_rfl))⟩
  f74 := ⟨Tryd.f89.name, by decide, Tryd.func89.trans (congrArg some (by kernel_rfl))⟩
  f75 := ⟨Tryd.f90.name, by decide, Tryd.func90.trans (congrArg some (by kernel_rfl))⟩
  f76 := ⟨Tryd.f92.name, by decide, Tryd.func92.trans (congrArg some (by kernel_rfl))⟩
  f77 := ⟨Tryd.f93.name, by decide, Tryd.func93.trans (congrArg some (by kernel_rfl))⟩
  f78 := Tryd.func73.trans (congrArg some (by kernel_rfl))
  f79 := Tryd.func74.trans (congrArg some (by kernel_rfl))
  f88 := ⟨Tryd.f97.name, by decide, Tryd.func97.trans (congrArg some (by kernel_rfl))⟩
  f89 := Tryd.func81.trans (congrArg some (by kernel_rfl))
  f90 := Tryd.func82.trans (congrArg some (by kernel_rfl))
  f91 := ⟨Tryd.f98.name, by decide, Tryd.func98.trans (congrArg some (by kernel_rfl))⟩
  f92 := ⟨Tryd.f99.name, by decide, Tryd.func99.trans (congrArg some (by kernel_rfl))⟩
  f96 := ⟨Tryd.f101.name, by decide, Tryd.func101.trans (congrArg some (by kernel_rfl))⟩
  t0 := Tryd.underlying0
  a0 := Tryd.isAgg0
  z0 := Tryd.sizeOf0
  v0 := Tryd.zeroValue0
  t3 := Tryd.underlying3
  a3 := Tryd.isAgg3
  z3 := Tryd.sizeOf3
  v3 := Tryd.zeroValue3
  t4 := Tryd.underlying4
  a4 := Tryd.isAgg4
  z4 := Tryd.sizeOf4
  v4 := Tryd.zeroValue4
  t5 := Tryd.underlying5
  a5 := Tryd.isAgg5
  z5 := Tryd.sizeOf5
  v5 := Tryd.zeroValue5
  t9 := Tryd.underlying9
  a9 := Tryd.isAgg9
  z9 := Tryd.sizeOf9
  v9 := Tryd.zeroValue9
  t22 := Tryd.underlying23
  a22 := Tryd.isAgg23
  z22 := Tryd.sizeOf23
  v22 := Tryd.zeroValue23
  t23 := Tryd.underlying3
  a23 := Tryd.isAgg3
  z23 := Tryd.sizeOf3
  v23 := Tryd.zeroValue3
  t44 := Tryd.underlying121
  a44 := Tryd.isAgg121
  z44 := Tryd.sizeOf121
  v44 := Tryd.zeroValue121
  t51 := Tryd.underlying60
  a51 := Tryd.isAgg60
  z51 := Tryd.sizeOf60
  v51 := Tryd.zeroValue60
  t60 := Tryd.underlying128
  a60 := Tryd.isAgg128
  z60 := Tryd.sizeOf128
  v60 := Tryd.zeroValue128
  t61 := Tryd.underlying129
  a61 := Tryd.isAgg129
  z61 := Tryd.sizeOf129
  v61 := Tryd.zeroValue129
  t67 := Tryd.underlying135
  a67 := Tryd.isAgg135
  z67 := Tryd.sizeOf135
  v67 := Tryd.zeroValue135
  t69 := Tryd.underlying137
  a69 := Tryd.isAgg137
  z69 := Tryd.sizeOf137
  v69 := Tryd.zeroValue137
  t75 := Tryd.underlying144
  a75 := Tryd.isAgg144
  z75 := Tryd.sizeOf144
  v75 := Tryd.zeroValue144
  t79 := Tryd.underlying98
  a79 := Tryd.isAgg98
  z79 := Tryd.sizeOf98
  v79 := Tryd.zeroValue98
  t83 := Tryd.underlying155
  a83 := Tryd.isAgg155
  z83 := Tryd.sizeOf155
  v83 := Tryd.zeroValue155
  t84 := Tryd.underlying156
  a84 := Tryd.isAgg156
  z84 := Tryd.sizeOf156
  v84 := Tryd.zeroValue156 }
end Go.Proofs
