/-
  DERIVED: THE SHELF's CONTRACTS AT THIS DUMP, IN PLAIN WORDS (tools/lay-plain.mjs out of 'TrydBeside.lean', which tools/lay-shelf.mjs wrote): THE SAME DECLARATIONS UNDER THE SAME NAMES: 'import', 'namespace', 'open', 'def', 'theorem' AND NOTHING ELSE: no command of the shelf's: FOR A HAND-IN. Each laying: the table of numbers ('.._ren') and one theorem, a field a fact of the dump's own or the kernel's comparison; each contract: ONE APPLICATION.
-/
import Derived.Shelf.SlSortCmp.NoneTotal
import Derived.Ground.SlsfProg
import Derived.Shelf.SlSorted.Search
import Derived.Ground.SlsoProg
import Derived.Shelf.SlicesQ.IndexFunc
import Derived.Ground.SlgfProg
import Derived.Test.YtgbbldbkkmjedaaDoorProg
namespace Go.Proofs
open Go.Shelf
def Tryd.sortSpan_ren : Go.Shelf.Ren := ⟨fun | 6 => 75 | 15 => 93 | 14 => 106 | 28 => 126 | 29 => 127 | 20 => 136 | 21 => 137 | 22 => 138 | 23 => 139 | 24 => 140 | 25 => 141 | 26 => 142 | 27 => 143 | 46 => 171 | 47 => 154 | 48 => 155 | 49 => 172 | 50 => 173 | 57 => 192 | n => n, fun | 22 => 29 | 24 => 34 | 25 => 122 | 3 => 3 | 39 => 32 | 0 => 0 | 53 => 179 | 55 => 181 | 4 => 4 | 46 => 172 | 45 => 171 | 50 => 96 | 5 => 5 | 9 => 9 | 66 => 203 | 70 => 207 | 76 => 237 | 77 => 238 | n => n, fun | n => n⟩
theorem Tryd.sortSpan : Go.Proofs.SlLaysF0.n6 Tryd.prog Tryd.sortSpan_ren := {
  mixed := by kernel_rfl
  f6 := ⟨Tryd.f75.name, by decide, Tryd.func75.trans (congrArg some (by kernel_rfl))⟩
  f14 := ⟨Tryd.f106.name, by decide, Tryd.func106.trans (congrArg some (by kernel_rfl))⟩
  f15 := Tryd.func93.trans (congrArg some (by kernel_rfl))
  f20 := ⟨Tryd.f136.name, by decide, Tryd.func136.trans (congrArg some (by kernel_rfl))⟩
  f21 := ⟨Tryd.f137.name, by decide, Tryd.func137.trans (congrArg some (by kernel_rfl))⟩
  f22 := ⟨Tryd.f138.name, by decide, Tryd.func138.trans (congrArg some (by kernel_rfl))⟩
  f23 := ⟨Tryd.f139.name, by decide, Tryd.func139.trans (congrArg some (by kernel_rfl))⟩
  f24 := ⟨Tryd.f140.name, by decide, Tryd.func140.trans (congrArg some (by kernel_rfl))⟩
  f25 := ⟨Tryd.f141.name, by decide, Tryd.func141.trans (congrArg some (by kernel_rfl))⟩
  f26 := ⟨Tryd.f142.name, by decide, Tryd.func142.trans (congrArg some (by kernel_rfl))⟩
  f27 := ⟨Tryd.f143.name, by decide, Tryd.func143.trans (congrArg some (by kernel_rfl))⟩
  f28 := Tryd.func126.trans (congrArg some (by kernel_rfl))
  f29 := Tryd.func127.trans (congrArg some (by kernel_rfl))
  f46 := ⟨Tryd.f171.name, by decide, Tryd.func171.trans (congrArg some (by kernel_rfl))⟩
  f47 := Tryd.func154.trans (congrArg some (by kernel_rfl))
  f48 := Tryd.func155.trans (congrArg some (by kernel_rfl))
  f49 := ⟨Tryd.f172.name, by decide, Tryd.func172.trans (congrArg some (by kernel_rfl))⟩
  f50 := ⟨Tryd.f173.name, by decide, Tryd.func173.trans (congrArg some (by kernel_rfl))⟩
  f57 := ⟨Tryd.f192.name, by decide, Tryd.func192.trans (congrArg some (by kernel_rfl))⟩
  t0 := Tryd.underlying0
  a0 := Tryd.isAgg0
  z0 := Tryd.sizeOf0
  v0 := Tryd.zeroValue0
  t3 := Tryd.underlying3
  a3 := Tryd.isAgg3
  z3 := Tryd.sizeOf3
  v3 := Tryd.zeroValue3
  t4 := Tryd.underlying4
  a4 := Tryd.isAgg4
  z4 := Tryd.sizeOf4
  v4 := Tryd.zeroValue4
  t5 := Tryd.underlying5
  a5 := Tryd.isAgg5
  z5 := Tryd.sizeOf5
  v5 := Tryd.zeroValue5
  t9 := Tryd.underlying9
  a9 := Tryd.isAgg9
  z9 := Tryd.sizeOf9
  v9 := Tryd.zeroValue9
  t22 := Tryd.underlying29
  a22 := Tryd.isAgg29
  z22 := Tryd.sizeOf29
  v22 := Tryd.zeroValue29
  t25 := Tryd.underlying122
  a25 := Tryd.isAgg122
  z25 := Tryd.sizeOf122
  v25 := Tryd.zeroValue122
  t39 := Tryd.underlying32
  a39 := Tryd.isAgg32
  z39 := Tryd.sizeOf32
  v39 := Tryd.zeroValue32
  t45 := Tryd.underlying171
  a45 := Tryd.isAgg171
  z45 := Tryd.sizeOf171
  v45 := Tryd.zeroValue171
  t46 := Tryd.underlying172
  a46 := Tryd.isAgg172
  z46 := Tryd.sizeOf172
  v46 := Tryd.zeroValue172
  t50 := Tryd.underlying96
  a50 := Tryd.isAgg96
  z50 := Tryd.sizeOf96
  v50 := Tryd.zeroValue96
  t53 := Tryd.underlying179
  a53 := Tryd.isAgg179
  z53 := Tryd.sizeOf179
  v53 := Tryd.zeroValue179
  t55 := Tryd.underlying181
  a55 := Tryd.isAgg181
  z55 := Tryd.sizeOf181
  v55 := Tryd.zeroValue181
  t66 := Tryd.underlying203
  a66 := Tryd.isAgg203
  z66 := Tryd.sizeOf203
  v66 := Tryd.zeroValue203
  t70 := Tryd.underlying207
  a70 := Tryd.isAgg207
  z70 := Tryd.sizeOf207
  v70 := Tryd.zeroValue207
  t76 := Tryd.underlying237
  a76 := Tryd.isAgg237
  z76 := Tryd.sizeOf237
  v76 := Tryd.zeroValue237
  t77 := Tryd.underlying238
  a77 := Tryd.isAgg238
  z77 := Tryd.sizeOf238
  v77 := Tryd.zeroValue238 }
def Tryd.searchInts_ren : Go.Shelf.Ren := ⟨fun | 14 => 91 | 22 => 116 | 16 => 115 | n => n, fun | 28 => 28 | 3 => 3 | 0 => 0 | 35 => 81 | 4 => 4 | 38 => 32 | n => n, fun | n => n⟩
theorem Tryd.searchInts : Go.Proofs.SlLaysO.n14 Tryd.prog Tryd.searchInts_ren := {
  mixed := by kernel_rfl
  f14 := Tryd.func91.trans (congrArg some (by kernel_rfl))
  f16 := Tryd.func115.trans (congrArg some (by kernel_rfl))
  f22 := Tryd.func116.trans (congrArg some (by kernel_rfl))
  t0 := Tryd.underlying0
  a0 := Tryd.isAgg0
  z0 := Tryd.sizeOf0
  v0 := Tryd.zeroValue0
  t3 := Tryd.underlying3
  a3 := Tryd.isAgg3
  z3 := Tryd.sizeOf3
  v3 := Tryd.zeroValue3
  t4 := Tryd.underlying4
  a4 := Tryd.isAgg4
  z4 := Tryd.sizeOf4
  v4 := Tryd.zeroValue4
  t28 := Tryd.underlying28
  a28 := Tryd.isAgg28
  z28 := Tryd.sizeOf28
  v28 := Tryd.zeroValue28
  t35 := Tryd.underlying81
  a35 := Tryd.isAgg81
  z35 := Tryd.sizeOf81
  v35 := Tryd.zeroValue81
  t38 := Tryd.underlying32
  a38 := Tryd.isAgg32
  z38 := Tryd.sizeOf32
  v38 := Tryd.zeroValue32 }
def Tryd.indexOp_ren : Go.Shelf.Ren := ⟨fun | 6 => 63 | n => n, fun | 22 => 54 | 23 => 71 | 25 => 69 | 3 => 3 | 0 => 0 | 4 => 4 | n => n, fun | n => n⟩
theorem Tryd.indexOp : Go.Proofs.SlLaysH0.n6 Tryd.prog Tryd.indexOp_ren := {
  mixed := by kernel_rfl
  f6 := ⟨Tryd.f63.name, by decide, Tryd.func63.trans (congrArg some (by kernel_rfl))⟩
  t0 := Tryd.underlying0
  a0 := Tryd.isAgg0
  z0 := Tryd.sizeOf0
  v0 := Tryd.zeroValue0
  t3 := Tryd.underlying3
  a3 := Tryd.isAgg3
  z3 := Tryd.sizeOf3
  v3 := Tryd.zeroValue3
  t4 := Tryd.underlying4
  a4 := Tryd.isAgg4
  z4 := Tryd.sizeOf4
  v4 := Tryd.zeroValue4
  t22 := Tryd.underlying54
  a22 := Tryd.isAgg54
  z22 := Tryd.sizeOf54
  v22 := Tryd.zeroValue54
  t25 := Tryd.underlying69
  a25 := Tryd.isAgg69
  z25 := Tryd.sizeOf69
  v25 := Tryd.zeroValue69 }
end Go.Proofs
