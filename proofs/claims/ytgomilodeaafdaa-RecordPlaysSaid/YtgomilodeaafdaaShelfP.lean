/-
  DERIVED: THE SHELF's CONTRACTS AT THIS DUMP, IN PLAIN WORDS (tools/lay-plain.mjs out of 'TryShelfP.lean', which tools/lay-shelf.mjs wrote): THE SAME DECLARATIONS UNDER THE SAME NAMES: 'import', 'namespace', 'open', 'def', 'theorem' AND NOTHING ELSE: no command of the shelf's: FOR A HAND-IN. Each laying: the table of numbers ('.._ren') and one theorem, a field a fact of the dump's own or the kernel's comparison; each contract: ONE APPLICATION.
-/
import Derived.Shelf.SlSortCmp.NoneTotal
import Derived.Test.YtgomilodeaafdaaProg
namespace Go.Proofs
open Go.Shelf
def Try.sortP_ren : Go.Shelf.Ren := ⟨fun | 6 => 101 | 15 => 160 | 14 => 159 | 28 => 199 | 29 => 200 | 20 => 191 | 21 => 192 | 22 => 193 | 23 => 194 | 24 => 195 | 25 => 196 | 26 => 197 | 27 => 198 | 46 => 218 | 47 => 219 | 48 => 220 | 49 => 221 | 50 => 222 | 57 => 229 | n => n, fun | 22 => 47 | 24 => 51 | 25 => 146 | 3 => 3 | 39 => 206 | 0 => 0 | 53 => 242 | 55 => 22 | 4 => 4 | 46 => 236 | 45 => 235 | 50 => 121 | 5 => 5 | 9 => 9 | 66 => 255 | 70 => 259 | 76 => 264 | 77 => 265 | n => n, fun | n => n⟩
theorem Try.sortP : Go.Proofs.SlLaysF0.n6 Try.prog Try.sortP_ren := {
  mixed := by kernel_rfl
  f6 := ⟨Try.f101.name, by decide, Try.func101.trans (congrArg some (by kernel_rfl))⟩
  f14 := ⟨Try.f159.name, by decide, Try.func159.trans (congrArg some (by kernel_rfl))⟩
  f15 := Try.func160.trans (congrArg some (by kernel_rfl))
  f20 := ⟨Try.f191.name, by decide, Try.func191.trans (congrArg some (by kernel_rfl))⟩
  f21 := ⟨Try.f192.name, by decide, Try.func192.trans (congrArg some (by kernel_rfl))⟩
  f22 := ⟨Try.f193.name, by decide, Try.func193.trans (congrArg some (by kernel_rfl))⟩
  f23 := ⟨Try.f194.name, by decide, Try.func194.trans (congrArg some (by kernel_rfl))⟩
  f24 := ⟨Try.f195.name, by decide, Try.func195.trans (congrArg some (by kernel_rfl))⟩
  f25 := ⟨Try.f196.name, by decide, Try.func196.trans (congrArg some (by kernel_rfl))⟩
  f26 := ⟨Try.f197.name, by decide, Try.func197.trans (congrArg some (by kernel_rfl))⟩
  f27 := ⟨Try.f198.name, by decide, Try.func198.trans (congrArg some (by kernel_rfl))⟩
  f28 := Try.func199.trans (congrArg some (by kernel_rfl))
  f29 := Try.func200.trans (congrArg some (by kernel_rfl))
  f46 := ⟨Try.f218.name, by decide, Try.func218.trans (congrArg some (by kernel_rfl))⟩
  f47 := Try.func219.trans (congrArg some (by kernel_rfl))
  f48 := Try.func220.trans (congrArg some (by kernel_rfl))
  f49 := ⟨Try.f221.name, by decide, Try.func221.trans (congrArg some (by kernel_rfl))⟩
  f50 := ⟨Try.f222.name, by decide, Try.func222.trans (congrArg some (by kernel_rfl))⟩
  f57 := ⟨Try.f229.name, by decide, Try.func229.trans (congrArg some (by kernel_rfl))⟩
  t0 := Try.underlying0
  a0 := Try.isAgg0
  z0 := Try.sizeOf0
  v0 := Try.zeroValue0
  t3 := Try.underlying3
  a3 := Try.isAgg3
  z3 := Try.sizeOf3
  v3 := Try.zeroValue3
  t4 := Try.underlying4
  a4 := Try.isAgg4
  z4 := Try.sizeOf4
  v4 := Try.zeroValue4
  t5 := Try.underlying5
  a5 := Try.isAgg5
  z5 := Try.sizeOf5
  v5 := Try.zeroValue5
  t9 := Try.underlying9
  a9 := Try.isAgg9
  z9 := Try.sizeOf9
  v9 := Try.zeroValue9
  t22 := Try.underlying47
  a22 := Try.isAgg47
  z22 := Try.sizeOf47
  v22 := Try.zeroValue47
  t25 := Try.underlying146
  a25 := Try.isAgg146
  z25 := Try.sizeOf146
  v25 := Try.zeroValue146
  t39 := Try.underlying206
  a39 := Try.isAgg206
  z39 := Try.sizeOf206
  v39 := Try.zeroValue206
  t45 := Try.underlying235
  a45 := Try.isAgg235
  z45 := Try.sizeOf235
  v45 := Try.zeroValue235
  t46 := Try.underlying236
  a46 := Try.isAgg236
  z46 := Try.sizeOf236
  v46 := Try.zeroValue236
  t50 := Try.underlying121
  a50 := Try.isAgg121
  z50 := Try.sizeOf121
  v50 := Try.zeroValue121
  t53 := Try.underlying242
  a53 := Try.isAgg242
  z53 := Try.sizeOf242
  v53 := Try.zeroValue242
  t55 := Try.underlying22
  a55 := Try.isAgg22
  z55 := Try.sizeOf22
  v55 := Try.zeroValue22
  t66 := Try.underlying255
  a66 := Try.isAgg255
  z66 := Try.sizeOf255
  v66 := Try.zeroValue255
  t70 := Try.underlying259
  a70 := Try.isAgg259
  z70 := Try.sizeOf259
  v70 := Try.zeroValue259
  t76 := Try.underlying264
  a76 := Try.isAgg264
  z76 := Try.sizeOf264
  v76 := Try.zeroValue264
  t77 := Try.underlying265
  a77 := Try.isAgg265
  z77 := Try.sizeOf265
  v77 := Try.zeroValue265 }
end Go.Proofs
