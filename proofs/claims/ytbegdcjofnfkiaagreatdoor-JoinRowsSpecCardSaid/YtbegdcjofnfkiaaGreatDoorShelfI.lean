/-
  DERIVED: THE SHELF's CONTRACTS AT THIS DUMP, IN PLAIN WORDS (tools/lay-plain.mjs out of 'YtbegdcjofnfkiaaGreatDoorShelfI.lean', which tools/lay-shelf.mjs wrote): THE SAME DECLARATIONS UNDER THE SAME NAMES: 'import', 'namespace', 'open', 'def', 'theorem' AND NOTHING ELSE: no command of the shelf's: FOR A HAND-IN. Each laying: the table of numbers ('.._ren') and one theorem, a field a fact of the dump's own or the kernel's comparison; each contract: ONE APPLICATION.
-/
import Derived.Shelf.SortG.Plain
import Derived.Shelf.SortG.SortNone
import Derived.Ground.SlgnProg
import Derived.Test.YtbegdcjofnfkiaaGreatDoorProg
namespace Go.Proofs
open Go.Shelf
def Tryz.sortI_ren : Go.Shelf.Ren := ⟨fun | 53 => 74 | 64 => 80 | 63 => 103 | 78 => 115 | 79 => 116 | 70 => 127 | 71 => 128 | 72 => 129 | 73 => 130 | 74 => 131 | 75 => 132 | 59 => 133 | 76 => 134 | 77 => 135 | 88 => 144 | 89 => 137 | 90 => 138 | 91 => 145 | 92 => 146 | 68 => 117 | 96 => 151 | n => n, fun | 22 => 23 | 23 => 3 | 3 => 3 | 51 => 141 | 0 => 0 | 67 => 176 | 69 => 178 | 4 => 4 | 61 => 170 | 60 => 169 | 44 => 125 | 5 => 5 | 9 => 9 | 75 => 191 | 79 => 124 | 83 => 198 | 84 => 199 | n => n, fun | n => n⟩
theorem Tryz.sortI : Go.Proofs.SlLaysN.n53 Tryz.prog Tryz.sortI_ren := {
  mixed := by kernel_rfl
  f53 := ⟨Tryz.f74.name, by decide, Tryz.func74.trans (congrArg some (by kernel_rfl))⟩
  f59 := ⟨Tryz.f133.name, by decide, Tryz.func133.trans (congrArg some (by kernel_rfl))⟩
  f63 := ⟨Tryz.f103.name, by decide, Tryz.func103.trans (congrArg some (by kernel_rfl))⟩
  f64 := Tryz.func80.trans (congrArg some (by kernel_rfl))
  f68 := ⟨Tryz.f117.name, by decide, Tryz.func117.trans (congrArg some (by kernel_rfl))⟩
  f70 := ⟨Tryz.f127.name, by decide, Tryz.func127.trans (congrArg some (by kernel_rfl))⟩
  f71 := ⟨Tryz.f128.name, by decide, Tryz.func128.trans (congrArg some (by kernel_rfl))⟩
  f72 := ⟨Tryz.f129.name, by decide, Tryz.func129.trans (congrArg some (by kernel_rfl))⟩
  f73 := ⟨Tryz.f130.name, by decide, Tryz.func130.trans (congrArg some (by kernel_rfl))⟩
  f74 := ⟨Tryz.f131.name, by decide, Tryz.func131.trans (congrArg some (by kernel_rfl))⟩
  f75 := ⟨Tryz.f132.name, by decide, Tryz.func132.trans (congrArg some (by kernel_rfl))⟩
  f76 := ⟨Tryz.f134.name, by decide, Tryz.func134.trans (congrArg some (by kernel_rfl))⟩
  f77 := ⟨Tryz.f135.name, by decide, Tryz.func135.trans (congrArg some (by kernel_rfl))⟩
  f78 := Tryz.func115.trans (congrArg some (by kernel_rfl))
  f79 := Tryz.func116.trans (congrArg some (by kernel_rfl))
  f88 := ⟨Tryz.f144.name, by decide, Tryz.func144.trans (congrArg some (by kernel_rfl))⟩
  f89 := Tryz.func137.trans (congrArg some (by kernel_rfl))
  f90 := Tryz.func138.trans (congrArg some (by kernel_rfl))
  f91 := ⟨Tryz.f145.name, by decide, Tryz.func145.trans (congrArg some (by kernel_rfl))⟩
  f92 := ⟨Tryz.f146.name, by decide, Tryz.func146.trans (congrArg some (by kernel_rfl))⟩
  f96 := ⟨Tryz.f151.name, by decide, Tryz.func151.trans (congrArg some (by kernel_rfl))⟩
  t0 := Tryz.underlying0
  a0 := Tryz.isAgg0
  z0 := Tryz.sizeOf0
  v0 := Tryz.zeroValue0
  t3 := Tryz.underlying3
  a3 := Tryz.isAgg3
  z3 := Tryz.sizeOf3
  v3 := Tryz.zeroValue3
  t4 := Tryz.underlying4
  a4 := Tryz.isAgg4
  z4 := Tryz.sizeOf4
  v4 := Tryz.zeroValue4
  t5 := Tryz.underlying5
  a5 := Tryz.isAgg5
  z5 := Tryz.sizeOf5
  v5 := Tryz.zeroValue5
  t9 := Tryz.underlying9
  a9 := Tryz.isAgg9
  z9 := Tryz.sizeOf9
  v9 := Tryz.zeroValue9
  t22 := Tryz.underlying23
  a22 := Tryz.isAgg23
  z22 := Tryz.sizeOf23
  v22 := Tryz.zeroValue23
  t23 := Tryz.underlying3
  a23 := Tryz.isAgg3
  z23 := Tryz.sizeOf3
  v23 := Tryz.zeroValue3
  t44 := Tryz.underlying125
  a44 := Tryz.isAgg125
  z44 := Tryz.sizeOf125
  v44 := Tryz.zeroValue125
  t51 := Tryz.underlying141
  a51 := Tryz.isAgg141
  z51 := Tryz.sizeOf141
  v51 := Tryz.zeroValue141
  t60 := Tryz.underlying169
  a60 := Tryz.isAgg169
  z60 := Tryz.sizeOf169
  v60 := Tryz.zeroValue169
  t61 := Tryz.underlying170
  a61 := Tryz.isAgg170
  z61 := Tryz.sizeOf170
  v61 := Tryz.zeroValue170
  t67 := Tryz.underlying176
  a67 := Tryz.isAgg176
  z67 := Tryz.sizeOf176
  v67 := Tryz.zeroValue176
  t69 := Tryz.underlying178
  a69 := Tryz.isAgg178
  z69 := Tryz.sizeOf178
  v69 := Tryz.zeroValue178
  t75 := Tryz.underlying191
  a75 := Tryz.isAgg191
  z75 := Tryz.sizeOf191
  v75 := Tryz.zeroValue191
  t79 := Tryz.underlying124
  a79 := Tryz.isAgg124
  z79 := Tryz.sizeOf124
  v79 := Tryz.zeroValue124
  t83 := Tryz.underlying198
  a83 := Tryz.isAgg198
  z83 := Tryz.sizeOf198
  v83 := Tryz.zeroValue198
  t84 := Tryz.underlying199
  a84 := Tryz.isAgg199
  z84 := Tryz.sizeOf199
  v84 := Tryz.zeroValue199 }
end Go.Proofs
