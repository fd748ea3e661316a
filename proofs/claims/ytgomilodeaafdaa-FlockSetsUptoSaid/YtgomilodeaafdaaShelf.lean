/-
  DERIVED: THE SHELF's CONTRACTS AT THIS DUMP, IN PLAIN WORDS (tools/lay-plain.mjs out of 'TryShelf.lean', which tools/lay-shelf.mjs wrote): THE SAME DECLARATIONS UNDER THE SAME NAMES: 'import', 'namespace', 'open', 'def', 'theorem' AND NOTHING ELSE: no command of the shelf's: FOR A HAND-IN. Each laying: the table of numbers ('.._ren') and one theorem, a field a fact of the dump's own or the kernel's comparison; each contract: ONE APPLICATION.
-/
import Derived.Shelf.Small.Bits
import Derived.Shelf.Strconv.Itoa0
import Derived.Shelf.Sort.Plain
import Derived.Shelf.Slices.In.SortNone
import Derived.Test.YtgomilodeaafdaaProg
namespace Go.Proofs
open Go.Shelf
def Try.lays128_ren : Go.Shelf.Ren := ⟨fun | 128 => 199 | n => n, fun | 51 => 242 | 3 => 3 | 4 => 4 | 46 => 206 | 5 => 5 | 9 => 9 | n => n, fun | n => n⟩
theorem Try.lays128 : Go.Proofs.Lays.n128 Try.prog Try.lays128_ren := {
  mixed := by kernel_rfl
  f128 := Try.func199.trans (congrArg some (by kernel_rfl))
  t3 := Try.underlying3
  a3 := Try.isAgg3
  z3 := Try.sizeOf3
  v3 := Try.zeroValue3
  t4 := Try.underlying4
  a4 := Try.isAgg4
  z4 := Try.sizeOf4
  v4 := Try.zeroValue4
  t5 := Try.underlying5
  a5 := Try.isAgg5
  z5 := Try.sizeOf5
  v5 := Try.zeroValue5
  t9 := Try.underlying9
  a9 := Try.isAgg9
  z9 := Try.sizeOf9
  v9 := Try.zeroValue9
  t46 := Try.underlying206
  a46 := Try.isAgg206
  z46 := Try.sizeOf206
  v46 := Try.zeroValue206
  t51 := Try.underlying242
  a51 := Try.isAgg242
  z51 := Try.sizeOf242
  v51 := Try.zeroValue242 }
/-- bits.Len32: "Len32 returns the minimum number of bits required to represent x; the result is 0 for x == 0.": IT RETURNS 'Lib.bitLen x'; the world is as it was. ('h0', 'h1': x is a uint32.) (LAID: no walk: one application.) -/
theorem Try.bits_Len32 (x : Int) (w : World) (h0 : 0 ≤ x) (h1 : x ≤ 4294967295) :
    Calls Try.prog 199 #[.int .u32 x] w fun e w' => e = .returned (.int .i64 (Lib.bitLen x.toNat)) ∧ w' = w := Any.bits_Len32 Try.lays128 x w h0 h1
def Try.lays125_ren : Go.Shelf.Ren := ⟨fun | 125 => 160 | 128 => 199 | 129 => 200 | n => n, fun | 46 => 206 | 3 => 3 | 51 => 242 | 53 => 22 | 4 => 4 | 5 => 5 | 9 => 9 | n => n, fun | n => n⟩
theorem Try.lays125 : Go.Proofs.Lays.n125 Try.prog Try.lays125_ren := {
  mixed := by kernel_rfl
  f125 := Try.func160.trans (congrArg some (by kernel_rfl))
  f128 := Try.func199.trans (congrArg some (by kernel_rfl))
  f129 := Try.func200.trans (congrArg some (by kernel_rfl))
  t3 := Try.underlying3
  a3 := Try.isAgg3
  z3 := Try.sizeOf3
  v3 := Try.zeroValue3
  t4 := Try.underlying4
  a4 := Try.isAgg4
  z4 := Try.sizeOf4
  v4 := Try.zeroValue4
  t5 := Try.underlying5
  a5 := Try.isAgg5
  z5 := Try.sizeOf5
  v5 := Try.zeroValue5
  t9 := Try.underlying9
  a9 := Try.isAgg9
  z9 := Try.sizeOf9
  v9 := Try.zeroValue9
  t46 := Try.underlying206
  a46 := Try.isAgg206
  z46 := Try.sizeOf206
  v46 := Try.zeroValue206
  t51 := Try.underlying242
  a51 := Try.isAgg242
  z51 := Try.sizeOf242
  v51 := Try.zeroValue242
  t53 := Try.underlying22
  a53 := Try.isAgg22
  z53 := Try.sizeOf22
  v53 := Try.zeroValue22 }
/-- bits.Len: "Len returns the minimum number of bits required to represent x; the result is 0 for x == 0.": IT RETURNS 'Lib.bitLen x'; the world is as it was. (A uint has 64 bits in the model.) ITS CALLEE bits.Len64 IS MET BY ITS OWN CONTRACT OFF THE SHELF (lay that first). (LAID: no walk: one application.) -/
theorem Try.bits_Len (x : Int) (w : World) (h0 : 0 ≤ x) (h1 : x ≤ 18446744073709551615) :
    Calls Try.prog 160 #[.int .u64 x] w fun e w' => e = .returned (.int .i64 (Lib.bitLen x.toNat)) ∧ w' = w := Any.bits_Len Try.lays125 x w h0 h1
def Try.lays129_ren : Go.Shelf.Ren := ⟨fun | 129 => 200 | n => n, fun | 53 => 22 | 3 => 3 | 4 => 4 | 46 => 206 | 5 => 5 | 9 => 9 | n => n, fun | n => n⟩
theorem Try.lays129 : Go.Proofs.Lays.n129 Try.prog Try.lays129_ren := {
  mixed := by kernel_rfl
  f129 := Try.func200.trans (congrArg some (by kernel_rfl))
  t3 := Try.underlying3
  a3 := Try.isAgg3
  z3 := Try.sizeOf3
  v3 := Try.zeroValue3
  t4 := Try.underlying4
  a4 := Try.isAgg4
  z4 := Try.sizeOf4
  v4 := Try.zeroValue4
  t5 := Try.underlying5
  a5 := Try.isAgg5
  z5 := Try.sizeOf5
  v5 := Try.zeroValue5
  t9 := Try.underlying9
  a9 := Try.isAgg9
  z9 := Try.sizeOf9
  v9 := Try.zeroValue9
  t46 := Try.underlying206
  a46 := Try.isAgg206
  z46 := Try.sizeOf206
  v46 := Try.zeroValue206
  t53 := Try.underlying22
  a53 := Try.isAgg22
  z53 := Try.sizeOf22
  v53 := Try.zeroValue22 }
/-- bits.Len64: "Len64 returns the minimum number of bits required to represent x; the result is 0 for x == 0.": IT RETURNS 'Lib.bitLen x'; the world is as it was. ('h0', 'h1': x is a uint64.) (LAID: no walk: one application.) -/
theorem Try.bits_Len64 (x : Int) (w : World) (h0 : 0 ≤ x) (h1 : x ≤ 18446744073709551615) :
    Calls Try.prog 200 #[.int .u64 x] w fun e w' => e = .returned (.int .i64 (Lib.bitLen x.toNat)) ∧ w' = w := Any.bits_Len64 Try.lays129 x w h0 h1
def Try.lays190_ren : Go.Shelf.Ren := ⟨fun | 190 => 118 | 125 => 160 | 258 => 172 | 128 => 199 | 129 => 200 | 302 => 205 | 303 => 206 | 304 => 207 | 305 => 208 | 306 => 209 | 307 => 210 | 308 => 211 | 309 => 212 | 310 => 213 | 333 => 226 | 329 => 219 | 330 => 220 | 334 => 227 | 335 => 228 | 336 => 161 | 344 => 232 | n => n, fun | 31 => 39 | 9 => 9 | 3 => 3 | 46 => 206 | 0 => 0 | 51 => 242 | 53 => 22 | 4 => 4 | 183 => 236 | 182 => 235 | 131 => 121 | 5 => 5 | 218 => 255 | 222 => 259 | 228 => 264 | 229 => 265 | n => n, fun | n => n⟩
theorem Try.lays190 : Go.Proofs.Lays.n190 Try.prog Try.lays190_ren := {
  mixed := by kernel_rfl
  f125 := Try.func160.trans (congrArg some (by kernel_rfl))
  f128 := Try.func199.trans (congrArg some (by kernel_rfl))
  f129 := Try.func200.trans (congrArg some (by kernel_rfl))
  f190 := Try.func118.trans (congrArg some (by kernel_rfl))
  f258 := Try.func172.trans (congrArg some (by kernel_rfl))
  f302 := Try.func205.trans (congrArg some (by kernel_rfl))
  f303 := Try.func206.trans (congrArg some (by kernel_rfl))
  f304 := Try.func207.trans (congrArg some (by kernel_rfl))
  f305 := Try.func208.trans (congrArg some (by kernel_rfl))
  f306 := Try.func209.trans (congrArg some (by kernel_rfl))
  f307 := Try.func210.trans (congrArg some (by kernel_rfl))
  f308 := Try.func211.trans (congrArg some (by kernel_rfl))
  f309 := Try.func212.trans (congrArg some (by kernel_rfl))
  f310 := Try.func213.trans (congrArg some (by kernel_rfl))
  f329 := Try.func219.trans (congrArg some (by kernel_rfl))
  f330 := Try.func220.trans (congrArg some (by kernel_rfl))
  f333 := Try.func226.trans (congrArg some (by kernel_rfl))
  f334 := Try.func227.trans (congrArg some (by kernel_rfl))
  f335 := Try.func228.trans (congrArg some (by kernel_rfl))
  f336 := Try.func161.trans (congrArg some (by kernel_rfl))
  f344 := Try.func232.trans (congrArg some (by kernel_rfl))
  t0 := Try.underlying0
  a0 := Try.isAgg0
  z0 := Try.sizeOf0
  v0 := Try.zeroValue0
  t3 := Try.underlying3
  a3 := Try.isAgg3
  z3 := Try.sizeOf3
  v3 := Try.zeroValue3
  t4 := Try.underlying4
  a4 := Try.isAgg4
  z4 := Try.sizeOf4
  v4 := Try.zeroValue4
  t5 := Try.underlying5
  a5 := Try.isAgg5
  z5 := Try.sizeOf5
  v5 := Try.zeroValue5
  t9 := Try.underlying9
  a9 := Try.isAgg9
  z9 := Try.sizeOf9
  v9 := Try.zeroValue9
  t31 := Try.underlying39
  a31 := Try.isAgg39
  z31 := Try.sizeOf39
  v31 := Try.zeroValue39
  t46 := Try.underlying206
  a46 := Try.isAgg206
  z46 := Try.sizeOf206
  v46 := Try.zeroValue206
  t51 := Try.underlying242
  a51 := Try.isAgg242
  z51 := Try.sizeOf242
  v51 := Try.zeroValue242
  t53 := Try.underlying22
  a53 := Try.isAgg22
  z53 := Try.sizeOf22
  v53 := Try.zeroValue22
  t131 := Try.underlying121
  a131 := Try.isAgg121
  z131 := Try.sizeOf121
  v131 := Try.zeroValue121
  t182 := Try.underlying235
  a182 := Try.isAgg235
  z182 := Try.sizeOf235
  v182 := Try.zeroValue235
  t183 := Try.underlying236
  a183 := Try.isAgg236
  z183 := Try.sizeOf236
  v183 := Try.zeroValue236
  t218 := Try.underlying255
  a218 := Try.isAgg255
  z218 := Try.sizeOf255
  v218 := Try.zeroValue255
  t222 := Try.underlying259
  a222 := Try.isAgg259
  z222 := Try.sizeOf259
  v222 := Try.zeroValue259
  t228 := Try.underlying264
  a228 := Try.isAgg264
  z228 := Try.sizeOf264
  v228 := Try.zeroValue264
  t229 := Try.underlying265
  a229 := Try.isAgg265
  z229 := Try.sizeOf265
  v229 := Try.zeroValue265 }
open Go.Sort Go.RowKit in
theorem Try.slices_Sort_string (blk off cap : Nat) (ss : List (List UInt8)) (w : World) (hH : Holds encStr w blk off ss.toArray) (hblk : blk < w.heap.size) (hsz : ss.length < 4611686018427387904) :
    Calls Try.prog 118 #[.slice (some ⟨blk, off, none⟩) ss.length cap] w fun e w' =>
      e = .returned (.tuple #[]) ∧ ∃ n os, w' = grow (putRow encStr (Sort.ahead w n) blk off (ss.mergeSort fun x y => decide (x ≤ y)).toArray) os := Any.slices_Sort_string Try.lays190 blk off cap ss w hH hblk hsz
open Go.RowKit Go.Sort in
/-- .. and plain. (LAID: no walk: one application.) -/
theorem Try.slices_Sort_string_none (p : Option Addr) (cap : Nat) (w : World) :
    Calls Try.prog 118 #[.slice p 0 cap] w fun e w' => e = .returned (.tuple #[]) ∧ w' = w := Any.slices_Sort_string_none Try.lays190 p cap w
end Go.Proofs
