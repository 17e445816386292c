/-
  DERIVED: THE SHELF's CONTRACTS AT THIS DUMP, IN PLAIN WORDS (tools/lay-plain.mjs out of 'YtologegkbcedhaaShelfI.lean', which tools/lay-shelf.mjs wrote): THE SAME DECLARATIONS UNDER THE SAME NAMES: 'import', 'namespace', 'open', 'def', 'theorem' AND NOTHING ELSE: no command of the shelf's: FOR A HAND-IN. Each laying: the table of numbers ('.._ren') and one theorem, a field a fact of the dump's own or the kernel's comparison; each contract: ONE APPLICATION.
-/
import Derived.Shelf.SortG.Plain
import Derived.Shelf.SortG.SortNone
import Derived.Ground.SlgnProg
import Derived.Test.YtologegkbcedhaaProg
namespace Go.Proofs
open Go.Shelf
def Try.sortI_ren : Go.Shelf.Ren := ⟨fun | 53 => 60 | 64 => 68 | 63 => 72 | 78 => 84 | 79 => 85 | 70 => 86 | 71 => 87 | 72 => 88 | 73 => 89 | 74 => 90 | 75 => 91 | 59 => 92 | 76 => 93 | 77 => 94 | 88 => 108 | 89 => 104 | 90 => 105 | 91 => 109 | 92 => 110 | 68 => 69 | 96 => 115 | n => n, fun | 22 => 32 | 23 => 3 | 3 => 3 | 51 => 50 | 0 => 0 | 67 => 136 | 69 => 138 | 4 => 4 | 61 => 129 | 60 => 128 | 44 => 133 | 5 => 5 | 9 => 9 | 75 => 150 | 79 => 154 | 83 => 160 | 84 => 161 | n => n, fun | n => n⟩
theorem Try.sortI : Go.Proofs.SlLaysN.n53 Try.prog Try.sortI_ren := {
  mixed := by kernel_rfl
  f53 := ⟨Try.f60.name, by decide, Try.func60.trans (congrArg some (by kernel_rfl))⟩
  f59 := ⟨Try.f92.name, by decide, Try.func92.trans (congrArg some (by kernel_rfl))⟩
  f63 := ⟨Try.f72.name, by decide, Try.func72.trans (congrArg some (by kernel_rfl))⟩
  f64 := Try.func68.trans (congrArg some (by kernel_rfl))
  f68 := ⟨Try.f69.name, by decide, Try.func69.trans (congrArg some (by kernel_rfl))⟩
  f70 := ⟨Try.f86.name, by decide, Try.func86.trans (congrArg some (by kernel_rfl))⟩
  f71 := ⟨Try.f87.name, by decide, Try.func87.trans (congrArg some (by kernel_rfl))⟩
  f72 := ⟨Try.f88.name, by decide, Try.func88.trans (congrArg some (by kernel_rfl))⟩
  f73 := ⟨Try.f89.name, by decide, Try.func89.trans (congrArg some (by kernel_rfl))⟩
  f74 := ⟨Try.f90.name, by decide, Try.func90.trans (congrArg some (by kernel_rfl))⟩
  f75 := ⟨Try.f91.name, by decide, Try.func91.trans (congrArg some (by kernel_rfl))⟩
  f76 := ⟨Try.f93.name, by decide, Try.func93.trans (congrArg some (by kernel_rfl))⟩
  f77 := ⟨Try.f94.name, by decide, Try.func94.trans (congrArg some (by kernel_rfl))⟩
  f78 := Try.func84.trans (congrArg some (by kernel_rfl))
  f79 := Try.func85.trans (congrArg some (by kernel_rfl))
  f88 := ⟨Try.f108.name, by decide, Try.func108.trans (congrArg some (by kernel_rfl))⟩
  f89 := Try.func104.trans (congrArg some (by kernel_rfl))
  f90 := Try.func105.trans (congrArg some (by kernel_rfl))
  f91 := ⟨Try.f109.name, by decide, Try.func109.trans (congrArg some (by kernel_rfl))⟩
  f92 := ⟨Try.f110.name, by decide, Try.func110.trans (congrArg some (by kernel_rfl))⟩
  f96 := ⟨Try.f115.name, by decide, Try.func115.trans (congrArg some (by kernel_rfl))⟩
  t0 := Try.underlying0
  a0 := Try.isAgg0
  z0 := Try.sizeOf0
  v0 := Try.zeroValue0
  t3 := Try.underlying3
  a3 := Try.isAgg3
  z3 := Try.sizeOf3
  v3 := Try.zeroValue3
  t4 := Try.underlying4
  a4 := Try.isAgg4
  z4 := Try.sizeOf4
  v4 := Try.zeroValue4
  t5 := Try.underlying5
  a5 := Try.isAgg5
  z5 := Try.sizeOf5
  v5 := Try.zeroValue5
  t9 := Try.underlying9
  a9 := Try.isAgg9
  z9 := Try.sizeOf9
  v9 := Try.zeroValue9
  t22 := Try.underlying32
  a22 := Try.isAgg32
  z22 := Try.sizeOf32
  v22 := Try.zeroValue32
  t23 := Try.underlying3
  a23 := Try.isAgg3
  z23 := Try.sizeOf3
  v23 := Try.zeroValue3
  t44 := Try.underlying133
  a44 := Try.isAgg133
  z44 := Try.sizeOf133
  v44 := Try.zeroValue133
  t51 := Try.underlying50
  a51 := Try.isAgg50
  z51 := Try.sizeOf50
  v51 := Try.zeroValue50
  t60 := Try.underlying128
  a60 := Try.isAgg128
  z60 := Try.sizeOf128
  v60 := Try.zeroValue128
  t61 := Try.underlying129
  a61 := Try.isAgg129
  z61 := Try.sizeOf129
  v61 := Try.zeroValue129
  t67 := Try.underlying136
  a67 := Try.isAgg136
  z67 := Try.sizeOf136
  v67 := Try.zeroValue136
  t69 := Try.underlying138
  a69 := Try.isAgg138
  z69 := Try.sizeOf138
  v69 := Try.zeroValue138
  t75 := Try.underlying150
  a75 := Try.isAgg150
  z75 := Try.sizeOf150
  v75 := Try.zeroValue150
  t79 := Try.underlying154
  a79 := Try.isAgg154
  z79 := Try.sizeOf154
  v79 := Try.zeroValue154
  t83 := Try.underlying160
  a83 := Try.isAgg160
  z83 := Try.sizeOf160
  v83 := Try.zeroValue160
  t84 := Try.underlying161
  a84 := Try.isAgg161
  z84 := Try.sizeOf161
  v84 := Try.zeroValue161 }
end Go.Proofs
