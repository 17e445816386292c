/-
  DERIVED: THE SHELF's CONTRACTS AT THIS DUMP, IN PLAIN WORDS (tools/lay-plain.mjs out of 'YtpnfpdkoeednhaaShelfI.lean', which tools/lay-shelf.mjs wrote): THE SAME DECLARATIONS UNDER THE SAME NAMES: 'import', 'namespace', 'open', 'def', 'theorem' AND NOTHING ELSE: no command of the shelf's: FOR A HAND-IN. Each laying: the table of numbers ('.._ren') and one theorem, a field a fact of the dump's own or the kernel's comparison; each contract: ONE APPLICATION.
-/
import Derived.Shelf.SortG.Plain
import Derived.Shelf.SortG.SortNone
import Derived.Ground.SlgnProg
import Derived.Test.YtpnfpdkoeednhaaProg
namespace Go.Proofs
open Go.Shelf
def Try.sortI_ren : Go.Shelf.Ren := ⟨fun | 53 => 52 | 64 => 74 | 63 => 73 | 78 => 92 | 79 => 93 | 70 => 83 | 71 => 84 | 72 => 85 | 73 => 86 | 74 => 87 | 75 => 88 | 59 => 89 | 76 => 90 | 77 => 91 | 88 => 96 | 89 => 97 | 90 => 98 | 91 => 99 | 92 => 100 | 68 => 78 | 96 => 103 | n => n, fun | 22 => 23 | 23 => 3 | 3 => 3 | 51 => 52 | 0 => 0 | 67 => 128 | 69 => 130 | 4 => 4 | 61 => 121 | 60 => 120 | 44 => 56 | 5 => 5 | 9 => 9 | 75 => 131 | 79 => 135 | 83 => 138 | 84 => 139 | n => n, fun | n => n⟩
theorem Try.sortI : Go.Proofs.SlLaysN.n53 Try.prog Try.sortI_ren := {
  mixed := by kernel_rfl
  f53 := ⟨Try.f52.name, by decide, Try.func52.trans (congrArg some (by kernel_rfl))⟩
  f59 := ⟨Try.f89.name, by decide, Try.func89.trans (congrArg some (by kernel_rfl))⟩
  f63 := ⟨Try.f73.name, by decide, Try.func73.trans (congrArg some (by kernel_rfl))⟩
  f64 := Try.func74.trans (congrArg some (by kernel_rfl))
  f68 := ⟨Try.f78.name, by decide, Try.func78.trans (congrArg some (by kernel_rfl))⟩
  f70 := ⟨Try.f83.name, by decide, Try.func83.trans (congrArg some (by kernel_rfl))⟩
  f71 := ⟨Try.f84.name, by decide, Try.func84.trans (congrArg some (by kernel_rfl))⟩
  f72 := ⟨Try.f85.name, by decide, Try.func85.trans (congrArg some (by kernel_rfl))⟩
  f73 := ⟨Try.f86.name, by decide, Try.func86.trans (congrArg some (by kernel_rfl))⟩
  f74 := ⟨Try.f87.name, by decide, Try.func87.trans (congrArg some (by kernel_rfl))⟩
  f75 := ⟨Try.f88.name, by decide, Try.func88.trans (congrArg some (by kernel_rfl))⟩
  f76 := ⟨Try.f90.name, by decide, Try.func90.trans (congrArg some (by kernel_rfl))⟩
  f77 := ⟨Try.f91.name, by decide, Try.func91.trans (congrArg some (by kernel_rfl))⟩
  f78 := Try.func92.trans (congrArg some (by kernel_rfl))
  f79 := Try.func93.trans (congrArg some (by kernel_rfl))
  f88 := ⟨Try.f96.name, by decide, Try.func96.trans (congrArg some (by kernel_rfl))⟩
  f89 := Try.func97.trans (congrArg some (by kernel_rfl))
  f90 := Try.func98.trans (congrArg some (by kernel_rfl))
  f91 := ⟨Try.f99.name, by decide, Try.func99.trans (congrArg some (by kernel_rfl))⟩
  f92 := ⟨Try.f100.name, by decide, Try.func100.trans (congrArg some (by kernel_rfl))⟩
  f96 := ⟨Try.f103.name, by decide, Try.func103.trans (congrArg some (by kernel_rfl))⟩
  t0 := Try.underlying0
  a0 := Try.isAgg0
  z0 := Try.sizeOf0
  v0 := Try.zeroValue0
  t3 := Try.underlying3
  a3 := Try.isAgg3
  z3 := Try.sizeOf3
  v3 := Try.zeroValue3
  t4 := Try.underlying4
  a4 := Try.isAgg4
  z4 := Try.sizeOf4
  v4 := Try.zeroValue4
  t5 := Try.underlying5
  a5 := Try.isAgg5
  z5 := Try.sizeOf5
  v5 := Try.zeroValue5
  t9 := Try.underlying9
  a9 := Try.isAgg9
  z9 := Try.sizeOf9
  v9 := Try.zeroValue9
  t22 := Try.underlying23
  a22 := Try.isAgg23
  z22 := Try.sizeOf23
  v22 := Try.zeroValue23
  t23 := Try.underlying3
  a23 := Try.isAgg3
  z23 := Try.sizeOf3
  v23 := Try.zeroValue3
  t44 := Try.underlying56
  a44 := Try.isAgg56
  z44 := Try.sizeOf56
  v44 := Try.zeroValue56
  t51 := Try.underlying52
  a51 := Try.isAgg52
  z51 := Try.sizeOf52
  v51 := Try.zeroValue52
  t60 := Try.underlying120
  a60 := Try.isAgg120
  z60 := Try.sizeOf120
  v60 := Try.zeroValue120
  t61 := Try.underlying121
  a61 := Try.isAgg121
  z61 := Try.sizeOf121
  v61 := Try.zeroValue121
  t67 := Try.underlying128
  a67 := Try.isAgg128
  z67 := Try.sizeOf128
  v67 := Try.zeroValue128
  t69 := Try.underlying130
  a69 := Try.isAgg130
  z69 := Try.sizeOf130
  v69 := Try.zeroValue130
  t75 := Try.underlying131
  a75 := Try.isAgg131
  z75 := Try.sizeOf131
  v75 := Try.zeroValue131
  t79 := Try.underlying135
  a79 := Try.isAgg135
  z79 := Try.sizeOf135
  v79 := Try.zeroValue135
  t83 := Try.underlying138
  a83 := Try.isAgg138
  z83 := Try.sizeOf138
  v83 := Try.zeroValue138
  t84 := Try.underlying139
  a84 := Try.isAgg139
  z84 := Try.sizeOf139
  v84 := Try.zeroValue139 }
end Go.Proofs

