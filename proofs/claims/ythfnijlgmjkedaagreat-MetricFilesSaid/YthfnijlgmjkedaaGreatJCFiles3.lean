/- fleuronlaw27.MetricFiles returns true for every metric, and the metric reads behind the call as it read before; conditions: none beside the given row's own. Part 3 of 9 of the proof. -/
import Derived.Shelf.Small.Bits
import Derived.Shelf.Small.Wraps
import Derived.Shelf.Strconv.Itoa0
import Derived.Shelf.Sort.Plain
import Derived.Ground.Names2Prog
import Derived.Shelf.Slices.CompactI
import Derived.Shelf.Slices.SearchI
import Derived.Shelf.Slices.Cells
import Derived.Shelf.Slices.In.SortNone
import Derived.Shelf.Slices.Empties
import Derived.Test.YthfnijlgmjkedaaGreatProg
import Derived.Test.YthfnijlgmjkedaaGreatJCFiles2
import Derived.Sort.OwnSortedInts
/-
  DERIVED: THE SHELF's CONTRACTS AT THIS DUMP, IN PLAIN WORDS (tools/lay-plain.mjs out of 'TryzShelf.lean', which tools/lay-shelf.mjs wrote): THE SAME DECLARATIONS UNDER THE SAME NAMES: 'import', 'namespace', 'open', 'def', 'theorem' AND NOTHING ELSE: no command of the shelf's: FOR A HAND-IN. Each laying: the table of numbers ('.._ren') and one theorem, a field a fact of the dump's own or the kernel's comparison; each contract: ONE APPLICATION.
-/
namespace Go.Proofs
open Go.Shelf
def Tryz.lays128_ren : Go.Shelf.Ren := ⟨fun | 128 => 122 | n => n, fun | 51 => 127 | 3 => 3 | 4 => 4 | 46 => 112 | 5 => 5 | 9 => 9 | n => n, fun | n => n⟩
theorem Tryz.lays128 : Go.Proofs.Lays.n128 Tryz.prog Tryz.lays128_ren := {
  mixed := by kernel_rfl
  f128 := Tryz.func122.trans (congrArg some (by kernel_rfl))
  t3 := Tryz.underlying3
  a3 := Tryz.isAgg3
  z3 := Tryz.sizeOf3
  v3 := Tryz.zeroValue3
  t4 := Tryz.underlying4
  a4 := Tryz.isAgg4
  z4 := Tryz.sizeOf4
  v4 := Tryz.zeroValue4
  t5 := Tryz.underlying5
  a5 := Tryz.isAgg5
  z5 := Tryz.sizeOf5
  v5 := Tryz.zeroValue5
  t9 := Tryz.underlying9
  a9 := Tryz.isAgg9
  z9 := Tryz.sizeOf9
  v9 := Tryz.zeroValue9
  t46 := Tryz.underlying112
  a46 := Tryz.isAgg112
  z46 := Tryz.sizeOf112
  v46 := Tryz.zeroValue112
  t51 := Tryz.underlying127
  a51 := Tryz.isAgg127
  z51 := Tryz.sizeOf127
  v51 := Tryz.zeroValue127 }
/-- bits.Len32: "Len32 returns the minimum number of bits required to represent x; the result is 0 for x == 0.": IT RETURNS 'Lib.bitLen x'; the world is as it was. ('h0', 'h1': x is a uint32.) (LAID: no walk: one application.) -/
theorem Tryz.bits_Len32 (x : Int) (w : World) (h0 : 0 ≤ x) (h1 : x ≤ 4294967295) :
    Calls Tryz.prog 122 #[.int .u32 x] w fun e w' => e = .returned (.int .i64 (Lib.bitLen x.toNat)) ∧ w' = w := Any.bits_Len32 Tryz.lays128 x w h0 h1
def Tryz.lays125_ren : Go.Shelf.Ren := ⟨fun | 125 => 109 | 128 => 122 | 129 => 123 | n => n, fun | 46 => 112 | 3 => 3 | 51 => 127 | 53 => 141 | 4 => 4 | 5 => 5 | 9 => 9 | n => n, fun | n => n⟩
theorem Tryz.lays125 : Go.Proofs.Lays.n125 Tryz.prog Tryz.lays125_ren := {
  mixed := by kernel_rfl
  f125 := Tryz.func109.trans (congrArg some (by kernel_rfl))
  f128 := Tryz.func122.trans (congrArg some (by kernel_rfl))
  f129 := Tryz.func123.trans (congrArg some (by kernel_rfl))
  t3 := Tryz.underlying3
  a3 := Tryz.isAgg3
  z3 := Tryz.sizeOf3
  v3 := Tryz.zeroValue3
  t4 := Tryz.underlying4
  a4 := Tryz.isAgg4
  z4 := Tryz.sizeOf4
  v4 := Tryz.zeroValue4
  t5 := Tryz.underlying5
  a5 := Tryz.isAgg5
  z5 := Tryz.sizeOf5
  v5 := Tryz.zeroValue5
  t9 := Tryz.underlying9
  a9 := Tryz.isAgg9
  z9 := Tryz.sizeOf9
  v9 := Tryz.zeroValue9
  t46 := Tryz.underlying112
  a46 := Tryz.isAgg112
  z46 := Tryz.sizeOf112
  v46 := Tryz.zeroValue112
  t51 := Tryz.underlying127
  a51 := Tryz.isAgg127
  z51 := Tryz.sizeOf127
  v51 := Tryz.zeroValue127
  t53 := Tryz.underlying141
  a53 := Tryz.isAgg141
  z53 := Tryz.sizeOf141
  v53 := Tryz.zeroValue141 }
/-- bits.Len: "Len returns the minimum number of bits required to represent x; the result is 0 for x == 0.": IT RETURNS 'Lib.bitLen x'; the world is as it was. (A uint has 64 bits in the model.) ITS CALLEE bits.Len64 IS MET BY ITS OWN CONTRACT OFF THE SHELF (lay that first). (LAID: no walk: one application.) -/
theorem Tryz.bits_Len (x : Int) (w : World) (h0 : 0 ≤ x) (h1 : x ≤ 18446744073709551615) :
    Calls Tryz.prog 109 #[.int .u64 x] w fun e w' => e = .returned (.int .i64 (Lib.bitLen x.toNat)) ∧ w' = w := Any.bits_Len Tryz.lays125 x w h0 h1
def Tryz.lays215_ren : Go.Shelf.Ren := ⟨fun | 215 => 104 | n => n, fun | 3 => 3 | 4 => 4 | n => n, fun | n => n⟩
theorem Tryz.lays215 : Go.Proofs.Lays.n215 Tryz.prog Tryz.lays215_ren := {
  mixed := by kernel_rfl
  f215 := Tryz.func104.trans (congrArg some (by kernel_rfl))
  t3 := Tryz.underlying3
  a3 := Tryz.isAgg3
  z3 := Tryz.sizeOf3
  v3 := Tryz.zeroValue3
  t4 := Tryz.underlying4
  a4 := Tryz.isAgg4
  z4 := Tryz.sizeOf4
  v4 := Tryz.zeroValue4 }
open Go.RowKit in
/-- cmp.isNaN at int: 'x != x': false. (LAID: no walk: one application.) -/
theorem Tryz.cmp_isNaN_int (x : Int) (w : World) :
    Calls Tryz.prog 104 #[.int .i64 x] w fun e w' => e = .returned (.bool false) ∧ w' = w := Any.cmp_isNaN_int Tryz.lays215 x w
def Tryz.lays122_ren : Go.Shelf.Ren := ⟨fun | 122 => 86 | 215 => 104 | n => n, fun | 3 => 3 | 4 => 4 | n => n, fun | n => n⟩
theorem Tryz.lays122 : Go.Proofs.Lays.n122 Tryz.prog Tryz.lays122_ren := {
  mixed := by kernel_rfl
  f122 := Tryz.func86.trans (congrArg some (by kernel_rfl))
  f215 := Tryz.func104.trans (congrArg some (by kernel_rfl))
  t3 := Tryz.underlying3
  a3 := Tryz.isAgg3
  z3 := Tryz.sizeOf3
  v3 := Tryz.zeroValue3
  t4 := Tryz.underlying4
  a4 := Tryz.isAgg4
  z4 := Tryz.sizeOf4
  v4 := Tryz.zeroValue4 }
open Go.RowKit in
/-- cmp.Compare at int: "Compare returns -1 if x is less than y, 0 if x equals y, +1 if x is greater than y.": IT RETURNS 'Lib.compareInt x y'; the world is as it was. (LAID: no walk: one application.) -/
theorem Tryz.cmp_Compare_int (x y : Int) (w : World) :
    Calls Tryz.prog 86 #[.int .i64 x, .int .i64 y] w fun e w' => e = .returned (.int .i64 (Lib.compareInt x y)) ∧ w' = w := Any.cmp_Compare_int Tryz.lays122 x y w
def Tryz.lays129_ren : Go.Shelf.Ren := ⟨fun | 129 => 123 | n => n, fun | 53 => 141 | 3 => 3 | 4 => 4 | 46 => 112 | 5 => 5 | 9 => 9 | n => n, fun | n => n⟩
theorem Tryz.lays129 : Go.Proofs.Lays.n129 Tryz.prog Tryz.lays129_ren := {
  mixed := by kernel_rfl
  f129 := Tryz.func123.trans (congrArg some (by kernel_rfl))
  t3 := Tryz.underlying3
  a3 := Tryz.isAgg3
  z3 := Tryz.sizeOf3
  v3 := Tryz.zeroValue3
  t4 := Tryz.underlying4
  a4 := Tryz.isAgg4
  z4 := Tryz.sizeOf4
  v4 := Tryz.zeroValue4
  t5 := Tryz.underlying5
  a5 := Tryz.isAgg5
  z5 := Tryz.sizeOf5
  v5 := Tryz.zeroValue5
  t9 := Tryz.underlying9
  a9 := Tryz.isAgg9
  z9 := Tryz.sizeOf9
  v9 := Tryz.zeroValue9
  t46 := Tryz.underlying112
  a46 := Tryz.isAgg112
  z46 := Tryz.sizeOf112
  v46 := Tryz.zeroValue112
  t53 := Tryz.underlying141
  a53 := Tryz.isAgg141
  z53 := Tryz.sizeOf141
  v53 := Tryz.zeroValue141 }
/-- bits.Len64: "Len64 returns the minimum number of bits required to represent x; the result is 0 for x == 0.": IT RETURNS 'Lib.bitLen x'; the world is as it was. ('h0', 'h1': x is a uint64.) (LAID: no walk: one application.) -/
theorem Tryz.bits_Len64 (x : Int) (w : World) (h0 : 0 ≤ x) (h1 : x ≤ 18446744073709551615) :
    Calls Tryz.prog 123 #[.int .u64 x] w fun e w' => e = .returned (.int .i64 (Lib.bitLen x.toNat)) ∧ w' = w := Any.bits_Len64 Tryz.lays129 x w h0 h1
def Tryz.lays189_ren : Go.Shelf.Ren := ⟨fun | 189 => 98 | 125 => 109 | 257 => 108 | 128 => 122 | 129 => 123 | 294 => 114 | 295 => 115 | 296 => 116 | 297 => 117 | 298 => 118 | 299 => 119 | 216 => 100 | 300 => 120 | 301 => 121 | 328 => 126 | 329 => 127 | 330 => 128 | 331 => 129 | 332 => 130 | 215 => 104 | 343 => 133 | n => n, fun | 28 => 48 | 3 => 3 | 46 => 112 | 0 => 0 | 51 => 127 | 53 => 141 | 4 => 4 | 183 => 134 | 182 => 133 | 131 => 86 | 5 => 5 | 9 => 9 | 218 => 142 | 222 => 146 | 228 => 148 | 229 => 149 | n => n, fun | n => n⟩
theorem Tryz.lays189 : Go.Proofs.Lays.n189 Tryz.prog Tryz.lays189_ren := {
  mixed := by kernel_rfl
  f125 := Tryz.func109.trans (congrArg some (by kernel_rfl))
  f128 := Tryz.func122.trans (congrArg some (by kernel_rfl))
  f129 := Tryz.func123.trans (congrArg some (by kernel_rfl))
  f189 := Tryz.func98.trans (congrArg some (by kernel_rfl))
  f215 := Tryz.func104.trans (congrArg some (by kernel_rfl))
  f216 := Tryz.func100.trans (congrArg some (by kernel_rfl))
  f257 := Tryz.func108.trans (congrArg some (by kernel_rfl))
  f294 := Tryz.func114.trans (congrArg some (by kernel_rfl))
  f295 := Tryz.func115.trans (congrArg some (by kernel_rfl))
  f296 := Tryz.func116.trans (congrArg some (by kernel_rfl))
  f297 := Tryz.func117.trans (congrArg some (by kernel_rfl))
  f298 := Tryz.func118.trans (congrArg some (by kernel_rfl))
  f299 := Tryz.func119.trans (congrArg some (by kernel_rfl))
  f300 := Tryz.func120.trans (congrArg some (by kernel_rfl))
  f301 := Tryz.func121.trans (congrArg some (by kernel_rfl))
  f328 := Tryz.func126.trans (congrArg some (by kernel_rfl))
  f329 := Tryz.func127.trans (congrArg some (by kernel_rfl))
  f330 := Tryz.func128.trans (congrArg some (by kernel_rfl))
  f331 := Tryz.func129.trans (congrArg some (by kernel_rfl))
  f332 := Tryz.func130.trans (congrArg some (by kernel_rfl))
  f343 := Tryz.func133.trans (congrArg some (by kernel_rfl))
  t0 := Tryz.underlying0
  a0 := Tryz.isAgg0
  z0 := Tryz.sizeOf0
  v0 := Tryz.zeroValue0
  t3 := Tryz.underlying3
  a3 := Tryz.isAgg3
  z3 := Tryz.sizeOf3
  v3 := Tryz.zeroValue3
  t4 := Tryz.underlying4
  a4 := Tryz.isAgg4
  z4 := Tryz.sizeOf4
  v4 := Tryz.zeroValue4
  t5 := Tryz.underlying5
  a5 := Tryz.isAgg5
  z5 := Tryz.sizeOf5
  v5 := Tryz.zeroValue5
  t9 := Tryz.underlying9
  a9 := Tryz.isAgg9
  z9 := Tryz.sizeOf9
  v9 := Tryz.zeroValue9
  t28 := Tryz.underlying48
  a28 := Tryz.isAgg48
  z28 := Tryz.sizeOf48
  v28 := Tryz.zeroValue48
  t46 := Tryz.underlying112
  a46 := Tryz.isAgg112
  z46 := Tryz.sizeOf112
  v46 := Tryz.zeroValue112
  t51 := Tryz.underlying127
  a51 := Tryz.isAgg127
  z51 := Tryz.sizeOf127
  v51 := Tryz.zeroValue127
  t53 := Tryz.underlying141
  a53 := Tryz.isAgg141
  z53 := Tryz.sizeOf141
  v53 := Tryz.zeroValue141
  t131 := Tryz.underlying86
  a131 := Tryz.isAgg86
  z131 := Tryz.sizeOf86
  v131 := Tryz.zeroValue86
  t182 := Tryz.underlying133
  a182 := Tryz.isAgg133
  z182 := Tryz.sizeOf133
  v182 := Tryz.zeroValue133
  t183 := Tryz.underlying134
  a183 := Tryz.isAgg134
  z183 := Tryz.sizeOf134
  v183 := Tryz.zeroValue134
  t218 := Tryz.underlying142
  a218 := Tryz.isAgg142
  z218 := Tryz.sizeOf142
  v218 := Tryz.zeroValue142
  t222 := Tryz.underlying146
  a222 := Tryz.isAgg146
  z222 := Tryz.sizeOf146
  v222 := Tryz.zeroValue146
  t228 := Tryz.underlying148
  a228 := Tryz.isAgg148
  z228 := Tryz.sizeOf148
  v228 := Tryz.zeroValue148
  t229 := Tryz.underlying149
  a229 := Tryz.isAgg149
  z229 := Tryz.sizeOf149
  v229 := Tryz.zeroValue149 }
open Go.Sort Go.RowKit in
theorem Tryz.slices_Sort_int (blk off cap : Nat) (zs : List Int) (w : World) (hH : Holds (Value.int .i64) w blk off zs.toArray) (hblk : blk < w.heap.size) (hsz : zs.length < 4611686018427387904) :
    Calls Tryz.prog 98 #[.slice (some ⟨blk, off, none⟩) zs.length cap] w fun e w' =>
      e = .returned (.tuple #[]) ∧ ∃ n os, w' = grow (putRow (Value.int .i64) (Sort.ahead w n) blk off (zs.mergeSort fun x y => decide (x ≤ y)).toArray) os := Any.slices_Sort_int Tryz.lays189 blk off cap zs w hH hblk hsz
def Tryz.laysNm220_ren : Go.Shelf.Ren := ⟨fun | 20 => 99 | n => n, fun | 22 => 48 | 3 => 3 | 4 => 4 | 0 => 0 | n => n, fun | n => n⟩
theorem Tryz.laysNm220 : Go.Proofs.Lays2.n20 Tryz.prog Tryz.laysNm220_ren := {
  mixed := by kernel_rfl
  f20 := Tryz.func99.trans (congrArg some (by kernel_rfl))
  t0 := Tryz.underlying0
  a0 := Tryz.isAgg0
  z0 := Tryz.sizeOf0
  v0 := Tryz.zeroValue0
  t3 := Tryz.underlying3
  a3 := Tryz.isAgg3
  z3 := Tryz.sizeOf3
  v3 := Tryz.zeroValue3
  t4 := Tryz.underlying4
  a4 := Tryz.isAgg4
  z4 := Tryz.sizeOf4
  v4 := Tryz.zeroValue4
  t22 := Tryz.underlying48
  a22 := Tryz.isAgg48
  z22 := Tryz.sizeOf48
  v22 := Tryz.zeroValue48
  i3 := by kernel_rfl }
open Go.RowKit Go.Lib Go.Sort in
/-- slices.Compact at []int, over an array: the library's two loops are walked. (LAID: no walk: one application.) -/
theorem Tryz.slices_Compact_int_arr (blk off cap : Nat) (d : Array Int) (w : World) (hH : Holds encI w blk off d) (hsz : d.size ≤ 9223372036854775807) (hcap : d.size ≤ cap) :
    Calls Tryz.prog 99 #[.slice (some ⟨blk, off, none⟩) d.size cap] w fun e w' => e = .returned (.slice (some ⟨blk, off, none⟩) (compactUpTo d d.size).length cap) ∧ ∃ q, w' = putRow encI (Sort.ahead w q) blk off (compactUpTo d d.size ++ List.replicate (d.size - (compactUpTo d d.size).length) 0).toArray := Any.slices_Compact_int_arr Tryz.laysNm220 blk off cap d w hH hsz hcap
open Go.RowKit Go.Lib Go.Sort in
/-- slices.Compact at []int: "Compact replaces consecutive runs of equal elements with a single copy. This is like the uniq command found on Unix. Compact modifies the contents of the slice s and returns the modified slice, which may have a smaller length. Compact zeroes the elements between the new length and the original length. The result preserves the nilness of s.": IT RETURNS THE SLICE CUT TO 'Lib.compact zs'; ITS CELLS HOLD 'Lib.compact zs', THEN ZERO VALUES up to the old length; all else is as it was, but for the count of draws. IN THE WORDS OF slices.Sort's CONTRACT ('Holds', 'putRow'): so the everyday 'slices.Sort(xs); xs = slices.Compact(xs)' goes from the one contract to the other. It asks 'zs.length ≤ cap' (every slice's: the reslicing 's[:k]' looks at it). Length 0, nil: '.._empty'. (LAID: no walk: one application.) -/
theorem Tryz.slices_Compact_int (blk off cap : Nat) (zs : List Int) (w : World) (hH : Holds (Value.int .i64) w blk off zs.toArray) (hsz : zs.length ≤ 9223372036854775807) (hcap : zs.length ≤ cap) :
    Calls Tryz.prog 99 #[.slice (some ⟨blk, off, none⟩) zs.length cap] w fun e w' => e = .returned (.slice (some ⟨blk, off, none⟩) (Lib.compact zs).length cap) ∧ ∃ q, w' = putRow (Value.int .i64) (Sort.ahead w q) blk off (Lib.compact zs ++ List.replicate (zs.length - (Lib.compact zs).length) 0).toArray := Any.slices_Compact_int Tryz.laysNm220 blk off cap zs w hH hsz hcap
open Go.RowKit Go.Lib Go.Sort in
/-- The same at a slice of length 0, a nil one too: it comes back as it is. (LAID: no walk: one application.) -/
theorem Tryz.slices_Compact_int_empty (a : Option Addr) (cap : Nat) (w : World) :
    Calls Tryz.prog 99 #[.slice a 0 cap] w fun e w' => e = .returned (.slice a 0 cap) ∧ w' = w := Any.slices_Compact_int_empty Tryz.laysNm220 a cap w
def Tryz.laysNm237_ren : Go.Shelf.Ren := ⟨fun | 37 => 104 | n => n, fun | 3 => 3 | 4 => 4 | n => n, fun | n => n⟩
theorem Tryz.laysNm237 : Go.Proofs.Lays2.n37 Tryz.prog Tryz.laysNm237_ren := {
  mixed := by kernel_rfl
  f37 := Tryz.func104.trans (congrArg some (by kernel_rfl))
  t3 := Tryz.underlying3
  a3 := Tryz.isAgg3
  z3 := Tryz.sizeOf3
  v3 := Tryz.zeroValue3
  t4 := Tryz.underlying4
  a4 := Tryz.isAgg4
  z4 := Tryz.sizeOf4
  v4 := Tryz.zeroValue4 }
open Go.RowKit Go.Lib in
/-- cmp.isNaN[int]: 'x != x': false. (LAID: no walk: one application.) -/
theorem Tryz.cmp_isNaN_int2 (x : Int) (w : World) :
    Calls Tryz.prog 104 #[.int .i64 x] w fun e w' => e = .returned (.bool false) ∧ w' = w := Any.cmp_isNaN_int2 Tryz.laysNm237 x w
def Tryz.laysNm232_ren : Go.Shelf.Ren := ⟨fun | 32 => 101 | n => n, fun | 3 => 3 | 4 => 4 | n => n, fun | n => n⟩
theorem Tryz.laysNm232 : Go.Proofs.Lays2.n32 Tryz.prog Tryz.laysNm232_ren := {
  mixed := by kernel_rfl
  f32 := Tryz.func101.trans (congrArg some (by kernel_rfl))
  t3 := Tryz.underlying3
  a3 := Tryz.isAgg3
  z3 := Tryz.sizeOf3
  v3 := Tryz.zeroValue3
  t4 := Tryz.underlying4
  a4 := Tryz.isAgg4
  z4 := Tryz.sizeOf4
  v4 := Tryz.zeroValue4 }
open Go.RowKit Go.Lib in
/-- slices.isNaN[int]: 'x != x': false. (LAID: no walk: one application.) -/
theorem Tryz.slices_isNaN_int2 (x : Int) (w : World) :
    Calls Tryz.prog 101 #[.int .i64 x] w fun e w' => e = .returned (.bool false) ∧ w' = w := Any.slices_isNaN_int2 Tryz.laysNm232 x w
def Tryz.laysNm231_ren : Go.Shelf.Ren := ⟨fun | 31 => 100 | 37 => 104 | n => n, fun | 3 => 3 | 4 => 4 | n => n, fun | n => n⟩
theorem Tryz.laysNm231 : Go.Proofs.Lays2.n31 Tryz.prog Tryz.laysNm231_ren := {
  mixed := by kernel_rfl
  f31 := Tryz.func100.trans (congrArg some (by kernel_rfl))
  f37 := Tryz.func104.trans (congrArg some (by kernel_rfl))
  t3 := Tryz.underlying3
  a3 := Tryz.isAgg3
  z3 := Tryz.sizeOf3
  v3 := Tryz.zeroValue3
  t4 := Tryz.underlying4
  a4 := Tryz.isAgg4
  z4 := Tryz.sizeOf4
  v4 := Tryz.zeroValue4 }
open Go.RowKit Go.Lib in
/-- cmp.Less[int]: "Less reports whether x is less than y.": 'x < y'; the world is as it was. (LAID: no walk: one application.) -/
theorem Tryz.cmp_Less_int2 (x y : Int) (w : World) :
    Calls Tryz.prog 100 #[.int .i64 x, .int .i64 y] w fun e w' => e = .returned (.bool (decide (x < y))) ∧ w' = w := Any.cmp_Less_int2 Tryz.laysNm231 x y w
def Tryz.laysNm225_ren : Go.Shelf.Ren := ⟨fun | 25 => 76 | 31 => 100 | 32 => 101 | 37 => 104 | n => n, fun | 22 => 48 | 3 => 3 | 4 => 4 | 40 => 112 | 0 => 0 | n => n, fun | n => n⟩
theorem Tryz.laysNm225 : Go.Proofs.Lays2.n25 Tryz.prog Tryz.laysNm225_ren := {
  mixed := by kernel_rfl
  f25 := Tryz.func76.trans (congrArg some (by kernel_rfl))
  f31 := Tryz.func100.trans (congrArg some (by kernel_rfl))
  f32 := Tryz.func101.trans (congrArg some (by kernel_rfl))
  f37 := Tryz.func104.trans (congrArg some (by kernel_rfl))
  t0 := Tryz.underlying0
  a0 := Tryz.isAgg0
  z0 := Tryz.sizeOf0
  v0 := Tryz.zeroValue0
  t3 := Tryz.underlying3
  a3 := Tryz.isAgg3
  z3 := Tryz.sizeOf3
  v3 := Tryz.zeroValue3
  t4 := Tryz.underlying4
  a4 := Tryz.isAgg4
  z4 := Tryz.sizeOf4
  v4 := Tryz.zeroValue4
  t22 := Tryz.underlying48
  a22 := Tryz.isAgg48
  z22 := Tryz.sizeOf48
  v22 := Tryz.zeroValue48
  t40 := Tryz.underlying112
  a40 := Tryz.isAgg112
  z40 := Tryz.sizeOf112
  v40 := Tryz.zeroValue112 }
open Go.RowKit Go.Lib in
/-- slices.BinarySearch at []int: "BinarySearch searches for target in a sorted slice and returns the earliest position where target is found, or the position where target would appear in the sort order; it also returns a bool saying whether the target is really found in the slice. The slice must be sorted in increasing order.": OF A SORTED SLICE IT RETURNS how many elements are less than the target, and whether the target is among the elements; the world is as it was but for the count of draws. 'zs': what the cells behind the slice's address hold; 'zs.take n': its elements. (Of a slice that is not sorted: no contract here.) (LAID: no walk: one application.) -/
theorem Tryz.slices_BinarySearch_int (b off n c : Nat) (zs : List Int) (x : Int) (w : World) (hz : n ≤ zs.length) (hbig : n < 4611686018427387904) (hc : ∀ j, j < zs.length → w.cell? ⟨b, off + j, none⟩ = some (.int .i64 (zs.getD j 0))) (hs : (zs.take n).Pairwise (· ≤ ·)) :
    Calls Tryz.prog 76 #[.slice (some ⟨b, off, none⟩) n c, .int .i64 x] w fun e w' => e = .returned (.tuple #[.int .i64 ((zs.take n).countP (· < x) : Nat), .bool ((zs.take n).contains x)]) ∧ ∃ q, w' = w.drewN q := Any.slices_BinarySearch_int Tryz.laysNm225 b off n c zs x w hz hbig hc hs
open Go.RowKit Go.Lib Go.Sort in
/-- slices.Compact at []int, of an argument: the slice cut to 'Lib.compact (elements)'; the n cells hold that, then zeros. (LAID: no walk: one application.) -/
theorem Tryz.slices_Compact_int_cells (b off n c : Nat) (zs : List Int) (w : World) (hz : n ≤ zs.length) (hbig : n ≤ 9223372036854775807) (hcap : n ≤ c) (hc : ∀ j, j < zs.length → w.cell? ⟨b, off + j, none⟩ = some (.int .i64 (zs.getD j 0))) (hf : ∀ j, j < n → w.frozen? ⟨b, off + j, none⟩ = false) :
    Calls Tryz.prog 99 #[.slice (some ⟨b, off, none⟩) n c] w fun e w' => e = .returned (.slice (some ⟨b, off, none⟩) (Lib.compact (zs.take n)).length c) ∧ ∃ q, w' = (w.drewN q).setCells b off ((Lib.compact (zs.take n) ++ List.replicate (n - (Lib.compact (zs.take n)).length) 0).map (Value.int .i64)) := Any.slices_Compact_int_cells Tryz.laysNm220 b off n c zs w hz hbig hcap hc hf
open Go.RowKit Go.Sort in
/-- .. and plain. (LAID: no walk: one application.) -/
theorem Tryz.slices_Sort_int_none (p : Option Addr) (cap : Nat) (w : World) :
    Calls Tryz.prog 98 #[.slice p 0 cap] w fun e w' => e = .returned (.tuple #[]) ∧ w' = w := Any.slices_Sort_int_none Tryz.lays189 p cap w
open Go.RowKit Go.Lib in
/-- slices.BinarySearch at []int of no element: position 0, not found; the world is as it was. (LAID: no walk: one application.) -/
theorem Tryz.slices_BinarySearch_int_empty (a : Option Addr) (c : Nat) (x : Int) (w : World) :
    Calls Tryz.prog 76 #[.slice a 0 c, .int .i64 x] w fun e w' => e = .returned (.tuple #[.int .i64 0, .bool false]) ∧ w' = w := Any.slices_BinarySearch_int_empty Tryz.laysNm225 a c x w
end Go.Proofs
namespace Go.Proofs.YthfnijlgmjkedaaGreat
set_option maxRecDepth 100000
set_option linter.unusedVariables false
set_option linter.unusedSimpArgs false
open Go Go.Fx Go.Proofs.YthfnijlgmjkedaaGreat.Tab Go.RowKit
def leI (x y : Int) : Bool := decide (x ≤ y)
theorem Own.cut {w : World} {e : TypeId} {sz g c n : Nat} {xs : List Value} (h : Own w e sz (.slice (some ⟨g, 0, none⟩) n c) n xs) {k : Nat} (hk : k ≤ n) : Own w e sz (.slice (some ⟨g, 0, none⟩) k c) k (xs.take (k * sz)) := by
  obtain ⟨hl, h⟩ := h
  have hle : k * sz ≤ n * sz := Nat.mul_le_mul_right _ hk
  refine ⟨by rw [List.length_take]; omega, ?_⟩
  rcases h with ⟨h, _⟩ | ⟨g', cap, cur, h, hb, hg, hnc, hcm, hcs, ht⟩
  · cases h
  · cases h
    exact .inr ⟨g, c, cur, rfl, hb, hg, by omega, hcm, hcs, by rw [← ht, List.take_take, Nat.min_eq_left hle]⟩
theorem ent_sort : Ent Go.Proofs.Tryz.prog 98 := ⟨_, Go.Proofs.Tryz.func98, rfl, rfl⟩
theorem ent_compact : Ent Go.Proofs.Tryz.prog 99 := ⟨_, Go.Proofs.Tryz.func99, rfl, rfl⟩
theorem ent_search : Ent Go.Proofs.Tryz.prog 76 := ⟨_, Go.Proofs.Tryz.func76, rfl, rfl⟩
theorem slices_Sort_int_c {w : World} {v : Value} {n : Nat} {l : List Int} (h : Own w 3 1 v n (l.map iV)) (hn : n = l.length) (hm : n ≤ 1000000) :
    Ret Go.Proofs.Tryz.prog 98 #[v] w fun r w' => r = .tuple #[] ∧ Own w' 3 1 v n ((l.mergeSort leI).map iV) ∧ Mod (fun k => v.ownBlock = some k) w w' := by
  refine ⟨ent_sort, ?_⟩
  obtain ⟨hl, h'⟩ := id h
  rcases h' with ⟨rfl, rfl⟩ | ⟨g, cap, cur, rfl, hb, hg, hnc, hcm, hcs, ht⟩
  · refine Calls.mono (Go.Proofs.Tryz.slices_Sort_int_none none 0 w) fun e w' ⟨he, hw⟩ => ⟨_, he, rfl, ?_, ?_⟩
    · have : l = [] := List.eq_nil_of_length_eq_zero hn.symm
      subst this; subst hw; simpa using h
    · subst hw; exact Mod.refl
  · have hg' : w.heap[g]? = some (.cells cur 3 (0, 0)) := hg
    have ht' : cur.toList.take l.length = l.map (Value.int .i64) := by rw [← ht, hn, Nat.mul_one]
    have := Go.Proofs.Tryz.slices_Sort_int g 0 cap l w (holds_of_blockI hg' ht') (Array.getElem?_eq_some_iff.1 hg).1 (by omega)
    rw [← hn] at this
    refine Calls.mono this fun e w' ⟨he, q, os, hw⟩ => ⟨_, he, rfl, ?_, ?_⟩
    · subst hw
      have := ownsRow_sortedI (w := w) (base := 0) (g := g) (cap := cap) (n := q) (e := 3) (os := os) (cur := cur) (ss := l) (ts := l.mergeSort leI) (by simp) (Nat.zero_le _) hg' (by omega) hcm (by omega)
      rw [← hn] at this
      exact this
    · subst hw
      exact Mod.grown (grownBy_sortedI _) (fun k hk => hk)
theorem compact_le (l : List Int) : (Lib.compact l).length ≤ l.length := by
  unfold Lib.compact
  have : ∀ m, m ≤ l.toArray.size → (Lib.compactUpTo l.toArray m).length ≤ m := by
    intro m
    induction m with
    | zero => intro _; simp [Lib.compactUpTo]
    | succ m ih =>
      intro hm
      rw [Lib.compactUpTo_succ, List.length_append]
      have := ih (by omega)
      split <;> simp <;> omega
  simpa using this l.length (by simp)
theorem slices_Compact_int_c {w : World} {v : Value} {n : Nat} {l : List Int} (h : Own w 3 1 v n (l.map iV)) (hn : n = l.length) (hm : n ≤ 1000000) :
    Ret Go.Proofs.Tryz.prog 99 #[v] w fun r w' => Own w' 3 1 r (Lib.compact l).length ((Lib.compact l).map iV) ∧ r.ownBlock = v.ownBlock ∧ Mod (fun k => v.ownBlock = some k) w w' := by
  refine ⟨ent_compact, ?_⟩
  obtain ⟨hl, h'⟩ := id h
  rcases h' with ⟨rfl, rfl⟩ | ⟨g, cap, cur, rfl, hb, hg, hnc, hcm, hcs, ht⟩
  · refine Calls.mono (Go.Proofs.Tryz.slices_Compact_int_empty none 0 w) fun e w' ⟨he, hw⟩ => ⟨_, he, ?_, rfl, ?_⟩
    · have : l = [] := List.eq_nil_of_length_eq_zero hn.symm
      subst this; subst hw; simpa [Lib.compact, Lib.compactUpTo] using h
    · subst hw; exact Mod.refl
  · have ht' : cur.toList.take l.length = l.map (Value.int .i64) := by rw [← ht, hn, Nat.mul_one]
    have := Go.Proofs.Tryz.slices_Compact_int g 0 cap l w (holds_of_blockI hg ht') (by omega) (by omega)
    rw [← hn] at this
    have hle := compact_le l
    refine Calls.mono this fun e w' ⟨he, q, hw⟩ => ⟨_, he, ?_, rfl, ?_⟩
    · have hts : (Lib.compact l ++ List.replicate (n - (Lib.compact l).length) 0).length = l.length := by simp; omega
      have h1 := ownsRow_sortedI (w := w) (base := 0) (g := g) (cap := cap) (n := q) (e := 3) (os := #[]) (cur := cur) (ss := l) (ts := Lib.compact l ++ List.replicate (n - (Lib.compact l).length) 0) hts (Nat.zero_le _) hg (by omega) hcm (by omega)
      rw [Sort.grow_empty, ← hw, ← hn] at h1
      have h2 := Own.cut h1 (k := (Lib.compact l).length) (by omega)
      rw [Nat.mul_one, ← List.map_take, List.take_left] at h2
      exact h2
    · have h1 := grownBy_sortedI (w := w) (g := g) (n := q) (os := #[]) (Lib.compact l ++ List.replicate (n - (Lib.compact l).length) 0).toArray
      rw [Sort.grow_empty, ← hw] at h1
      exact Mod.grown h1 (fun k hk => hk)
end Go.Proofs.YthfnijlgmjkedaaGreat
namespace Go.Proofs.YthfnijlgmjkedaaGreat
set_option maxRecDepth 100000
set_option linter.unusedVariables false
set_option linter.unusedSimpArgs false
open Go Go.Fx Go.Proofs.YthfnijlgmjkedaaGreat.Tab Go.RowKit
theorem metric_width_c {x : Ch} {w : World} : Ret Go.Proofs.Tryz.prog 70 #[chV x] w fun v w' => v = iV x.width ∧ Ext w w' := by
  refine enter Go.Proofs.Tryz.func70 rfl rfl rfl ?_
  refine W_sr rfl (s_bx rfl (s_as rfl (s_nil ?_)))
  refine W_sr rfl (s_fa E rfl rfl (s_ld E rfl rfl (bc0 rfl) (s_as rfl (s_nil ?_))))
  exact W_ret ⟨_, rfl, rfl, e1⟩
theorem metric_height_c {x : Ch} {w : World} : Ret Go.Proofs.Tryz.prog 71 #[chV x] w fun v w' => v = iV x.height ∧ Ext w w' := by
  refine enter Go.Proofs.Tryz.func71 rfl rfl rfl ?_
  refine W_sr rfl (s_bx rfl (s_as rfl (s_nil ?_)))
  refine W_sr rfl (s_fa E rfl rfl (s_ld E rfl rfl (bc0 rfl) (s_as rfl (s_nil ?_))))
  exact W_ret ⟨_, rfl, rfl, e1⟩
theorem metric_depth_c {x : Ch} {w : World} : Ret Go.Proofs.Tryz.prog 72 #[chV x] w fun v w' => v = iV x.depth ∧ Ext w w' := by
  refine enter Go.Proofs.Tryz.func72 rfl rfl rfl ?_
  refine W_sr rfl (s_bx rfl (s_as rfl (s_nil ?_)))
  refine W_sr rfl (s_fa E rfl rfl (s_ld E rfl rfl (bc0 rfl) (s_as rfl (s_nil ?_))))
  exact W_ret ⟨_, rfl, rfl, e1⟩
def tabL (f : Ch → Int) (l : List Ch) : List Int := Lib.compact ((l.map f).mergeSort leI)
theorem tabL_len (f : Ch → Int) (l : List Ch) : (tabL f l).length ≤ l.length := by
  have := compact_le ((l.map f).mergeSort leI); simpa [tabL] using this
/-- the index of a number in a sorted table -/
def idxT (t : List Int) (n : Int) : Int := (t.countP (· < n) : Nat)
theorem slices_BinarySearch_int_c {w : World} {v : Value} {n : Nat} {l : List Int} {x : Int} (h : Own w 3 1 v n (l.map iV)) (hn : n = l.length) (hm : n ≤ 1000000) (hs : l.Pairwise (· ≤ ·)) :
    Ret Go.Proofs.Tryz.prog 76 #[v, iV x] w fun r w' => r = .tuple #[iV (idxT l x), .bool (l.contains x)] ∧ Ext w w' := by
  refine ⟨ent_search, ?_⟩
  obtain ⟨hl, h'⟩ := id h
  rcases h' with ⟨rfl, rfl⟩ | ⟨g, cap, cur, rfl, hb, hg, hnc, hcm, hcs, ht⟩
  · refine Calls.mono (Go.Proofs.Tryz.slices_BinarySearch_int_empty none 0 x w) fun e w' ⟨he, hw⟩ => ⟨_, he, ?_, ?_⟩
    · have : l = [] := List.eq_nil_of_length_eq_zero hn.symm
      subst this; rfl
    · subst hw; exact Mod.refl
  · subst hn
    have hcell : ∀ j, j < l.length → w.cell? ⟨g, 0 + j, none⟩ = some (.int .i64 (l.getD j 0)) := by
      intro j hj
      have h1 : (cur.toList.take (l.length * 1))[j]? = (l.map iV)[j]? := by rw [ht]
      rw [List.getElem?_take_of_lt (by omega)] at h1
      unfold World.cell?
      simp only [hg, Nat.zero_add]
      simp only [Array.getElem?_toList] at h1
      simp [h1, hj]
    have := Go.Proofs.Tryz.slices_BinarySearch_int g 0 l.length cap l x w (Nat.le_refl _) (by omega) hcell (by simpa using hs)
    rw [List.take_length] at this
    refine Calls.mono this fun e w' ⟨he, q, hw⟩ => ⟨_, he, rfl, ?_⟩
    subst hw
    exact ⟨rfl, rfl, rfl, Nat.le_refl _, fun _ _ _ => rfl⟩
theorem map_take_succ {α β : Type} (f : α → β) (l : List α) (i : Nat) (h : i < l.length) : (l.take (i + 1)).map f = (l.take i).map f ++ [f l[i]] := by
  rw [List.take_succ_eq_append_getElem h, List.map_append]; rfl
theorem metric_table_c {m : Me} {p q : Option Addr} {c d : Nat} {g : FuncId} {f : Ch → Int} {w : World} (hm : MeR w m p q) (hb : m.chars.length ≤ 1000)
    (hg : ∀ x w, Ret Go.Proofs.Tryz.prog g #[chV x] w fun v w' => v = iV (f x) ∧ Ext w w') :
    Ret Go.Proofs.Tryz.prog 73 #[meV m p q c d, .func (.func g) #[] #[]] w fun v w' => Own w' 3 1 v (tabL f m.chars).length ((tabL f m.chars).map iV) ∧ (∀ k, v.ownBlock = some k → w.heap.size ≤ k) ∧ Ext w w' := by
  refine enter Go.Proofs.Tryz.func73 rfl rfl rfl ?_
  refine W_sr rfl (s_bx rfl (s_as rfl (s_nil ?_)))
  refine W_sr rfl (s_as rfl (s_nil ?_))
  refine W_seq ?_
  refine W_sr rfl (s_fa E rfl rfl (s_ld E rfl rfl (bc0 rfl) (s_len E rfl rfl (s_mv rfl (s_nil ?_)))))
  refine W_block ?_
  refine W_loop (fun n ρ w' => ∃ ρ' i v, ρ = upd (upd (upd (upd (upd ρ' 1 (.func (.func g) #[] #[])) 5 v) 9 (.slice p m.chars.length c)) 10 (iV m.chars.length)) 11 (iV (i : Nat)) ∧ Ext w w' ∧ i ≤ m.chars.length ∧ n = m.chars.length - i ∧
      Own w' 3 1 v i (((m.chars.take i).map f).map iV) ∧ ∀ k, v.ownBlock = some k → w.heap.size ≤ k) m.chars.length
    ⟨_, 0, .slice none 0 0, u5 rfl rfl rfl rfl rfl, e1, by omega, by omega, Own.nil _ _ _, by simp [Value.ownBlock]⟩ ?_
  rintro n _ w1 ⟨ρ, i, v, rfl, hE1, hi, rfl, hown, hfr⟩
  refine W_sr rfl (s_lss rfl rfl (s_nil ?_))
  refine W_seq ?_
  refine W_if rfl (fun hc => W_skip ?_) (fun hc => W_exit ?_)
  · have hc := of_decide_eq_true hc
    have hil : i < m.chars.length := by omega
    obtain ⟨a, rfl, hrow⟩ := hm.ch.some (by intro h0; have := flat_length chC 4 chC_len m.chars; rw [h0] at this; simp at this; omega)
    refine W_seq (W_block ?_)
    refine W_sr rfl (s_ia E rfl rfl rfl rfl hil (s_lda E rfl rfl (Ext.row hE1 (hrow.at chC_len hil)) rfl (s_alst E rfl rfl rfl rfl rfl fun w2 hE2 _ hh2 => (s_nil ?_))))
    refine W_reg rfl (s_mv rfl (s_mv rfl (s_lda E rfl rfl (row_heap hh2) rfl (s_callx rfl rfl (hg m.chars[i] _) fun w3 hE3 => (s_bs E rfl rfl rfl rfl rfl (cells := #[iV (f m.chars[i])]) (by kernel_rfl) (s_ap E rfl rfl rfl rfl (Ext.owns e1 (Ext.owns hE3 (Ext.owns hE2 hown))) rfl rfl bcr rfl rfl (by omega) fun v' w4 hown' hmod hon => (s_as rfl (s_nil ?_))))))))
    refine W_reg rfl (s_add rfl rfl (by omega) (s_mv rfl (s_nil ?_)))
    refine ⟨m.chars.length - (i + 1), by omega, _, i + 1, v', u5 rfl rfl rfl rfl rfl, Ext.thenMod (hE1.trans (hE2.trans (hE3.trans e1))) hmod (fun k hk he => by have := hfr k he; omega), by omega, rfl, ?_, ?_⟩
    · rw [map_take_succ f _ _ hil, List.map_append]; exact hown'
    · intro k hk
      rcases hon with h | ⟨j, hj, hle⟩
      · exact hfr k (by rw [← h]; exact hk)
      · rw [hj] at hk; cases hk
        have := (hE1.trans (hE2.trans (hE3.trans (e1 (o := .cells #[iV (f m.chars[i])] 3))))).size
        simp at hle
        have h1 := hE1.size; have h2 := hE2.size; have h3 := hE3.size
        omega
  · have hc := of_decide_eq_false hc
    have hie : i = m.chars.length := by omega
    subst hie
    rw [List.take_length] at hown
    refine W_sr rfl (s_mv rfl (s_callx rfl rfl (slices_Sort_int_c hown (by simp) (by omega)) fun w2 h2 => (s_nil ?_)))
    obtain ⟨hown2, hmod2⟩ := h2
    refine W_sr rfl (s_mv rfl (s_call rfl rfl (slices_Compact_int_c hown2 (by simp) (by omega)) fun r w3 h3 => (s_as rfl (s_nil ?_))))
    obtain ⟨hown3, hbl, hmod3⟩ := h3
    refine W_ret ⟨_, rfl, hown3, fun k hk => hfr k ((show r.ownBlock = v.ownBlock from hbl).symm.trans hk), ?_⟩
    exact Ext.thenMod (Ext.thenMod hE1 hmod2 (fun k hk he => by have := hfr k he; omega)) hmod3 (fun k hk he => by have := hfr k he; omega)
end Go.Proofs.YthfnijlgmjkedaaGreat
namespace Go.Proofs.YthfnijlgmjkedaaGreat
set_option maxRecDepth 100000
set_option linter.unusedVariables false
set_option linter.unusedSimpArgs false
open Go Go.Fx Go.Proofs.YthfnijlgmjkedaaGreat.Tab Go.RowKit
/-! ## the file of a metric, as bytes -/
def magicB : List Int := [70, 77, 69, 84]
def dimF : Nat → Ch → Int
  | 0 => Ch.width
  | 1 => Ch.height
  | _ => Ch.depth
def tabs (m : Me) (j : Nat) : List Int := tabL (dimF j) m.chars
def tabBytes (t : List Int) : List Int := bytes2 t.length ++ t.flatMap bytes4
def dimB (m : Me) (c : Ch) (j : Nat) : List Int := bytes2 (idxT (tabs m j) (dimF j c))
def chBytes (m : Me) (c : Ch) : List Int := [c.code % 256] ++ (List.range 3).flatMap (dimB m c)
def ruBytes (r : Ru) : List Int := [r.first % 256] ++ [r.next % 256] ++ [r.op % 256] ++ bytes4 r.value
def headB (m : Me) : List Int := magicB ++ bytes4 m.size
def tabsB (m : Me) (i : Nat) : List Int := (List.range i).flatMap fun j => tabBytes (tabs m j)
def bodyM (m : Me) : List Int := headB m ++ tabsB m 3 ++ bytes2 m.chars.length ++ m.chars.flatMap (chBytes m) ++ bytes2 m.rules.length ++ m.rules.flatMap ruBytes
def packM (m : Me) : List Int := bodyM m ++ bytes4 (sumB (bodyM m))
theorem flat_len_le {α : Type} (f : α → List Int) (k : Nat) (hf : ∀ x, (f x).length ≤ k) (l : List α) : (l.flatMap f).length ≤ l.length * k := by
  induction l with
  | nil => simp
  | cons x l ih => have := hf x; simp only [List.flatMap_cons, List.length_append, List.length_cons, Nat.add_mul, Nat.one_mul]; omega
theorem flat_take {α : Type} (f : α → List Int) (l : List α) (i : Nat) (h : i < l.length) : (l.take (i + 1)).flatMap f = (l.take i).flatMap f ++ f l[i] := by
  rw [List.take_succ_eq_append_getElem h]
  simp only [List.flatMap_append, List.flatMap_cons, List.flatMap_nil, List.append_nil]
theorem range_flat (f : Nat → List Int) (i : Nat) : (List.range (i + 1)).flatMap f = (List.range i).flatMap f ++ f i := by
  rw [List.range_succ]; simp
theorem tabs_len (m : Me) (j : Nat) : (tabs m j).length ≤ m.chars.length := tabL_len _ _
theorem tabBytes_len (m : Me) (j : Nat) (h : m.chars.length ≤ 1000) : (tabBytes (tabs m j)).length ≤ 4002 := by
  have h1 := tabs_len m j
  have h2 := flat_len_le bytes4 4 (fun _ => by simp [bytes4]) (tabs m j)
  simp only [tabBytes, List.length_append]
  have : (bytes2 ((tabs m j).length : Int)).length = 2 := rfl
  omega
theorem tabsB_len (m : Me) (i : Nat) (h : m.chars.length ≤ 1000) : (tabsB m i).length ≤ i * 4002 := by
  have := flat_len_le (fun j => tabBytes (tabs m j)) 4002 (fun j => tabBytes_len m j h) (List.range i)
  simpa [tabsB] using this
theorem chBytes_len (m : Me) (c : Ch) : (chBytes m c).length ≤ 7 := by
  have := flat_len_le (dimB m c) 2 (fun j => by simp [dimB, bytes2]) (List.range 3)
  simp only [chBytes, List.length_append, List.length_singleton]
  rw [List.length_range] at this; omega
theorem ruBytes_len (r : Ru) : (ruBytes r).length ≤ 7 := by simp [ruBytes, bytes4]
theorem compact_sub (l : List Int) : (Lib.compact l).Sublist l := by
  unfold Lib.compact
  have : ∀ m, m ≤ l.length → (Lib.compactUpTo l.toArray m).Sublist (l.take m) := by
    intro m
    induction m with
    | zero => intro _; simp [Lib.compactUpTo]
    | succ m ih =>
      intro hm
      rw [Lib.compactUpTo_succ, List.take_succ_eq_append_getElem (by omega)]
      refine List.Sublist.append (ih (by omega)) ?_
      split
      · have : l.toArray[m]! = l[m] := by rw [getElem!_pos _ _ (by simpa using (by omega : m < l.length))]; simp
        rw [this]
        exact List.Sublist.refl _
      · exact List.nil_sublist _
  have := this l.length (Nat.le_refl _)
  rwa [List.take_length] at this
theorem tabs_sorted (m : Me) (j : Nat) : (tabs m j).Pairwise (· ≤ ·) := by
  have h1 : ((m.chars.map (dimF j)).mergeSort leI).Pairwise (fun a b => leI a b = true) :=
    List.pairwise_mergeSort (fun a b c h1 h2 => by simp [leI] at *; omega) (fun a b => by simp [leI]; omega) _
  have h2 := h1.sublist (compact_sub _)
  exact h2.imp (by intro a b h; simpa [leI] using h)
/-! ## what holds while a file is being written -/
structure PK (w0 w : World) (S : Nat → Prop) (a tb : Nat) (KR : List (Addr × List Value)) (bs : List Int) (T : Nat → List Int) (vs : Nat → Value) : Prop where
  ext : Ext w0 w
  file : FileR w S a bs
  hS : ∀ k, S k → w0.heap.size ≤ k
  hS2 : ∀ k, S k → k < w.heap.size
  tab : ∃ ty, w.heap[tb]? = some (.cells #[vs 0, vs 1, vs 2] ty (0, 0))
  own : ∀ j, j < 3 → Own w 3 1 (vs j) (T j).length ((T j).map iV) ∧ ∀ k, (vs j).ownBlock = some k → ¬ S k ∧ k ≠ tb ∧ w0.heap.size ≤ k
  tbn : ¬ S tb ∧ w0.heap.size ≤ tb
  kept : ∀ x ∈ KR, Row w x.1 x.2 ∧ ¬ S x.1.block ∧ x.1.block ≠ tb ∧ x.1.block < w.heap.size
theorem PK.step {w0 w w' : World} {S : Nat → Prop} {a tb : Nat} {KR : List (Addr × List Value)} {bs : List Int} {T : Nat → List Int} {vs : Nat → Value} (h : PK w0 w S a tb KR bs T vs) (hE : Ext w w') : PK w0 w' S a tb KR bs T vs := by
  obtain ⟨ty, ht⟩ := h.tab
  exact ⟨h.ext.trans hE, h.file.mod hE (fun _ _ h => h), h.hS, fun k hk => Nat.lt_of_lt_of_le (h.hS2 k hk) hE.size, ⟨ty, Ext.heap hE ht⟩, fun j hj => ⟨Ext.owns hE (h.own j hj).1, (h.own j hj).2⟩, h.tbn,
    fun x hx => ⟨Ext.row hE (h.kept x hx).1, (h.kept x hx).2.1, (h.kept x hx).2.2.1, Nat.lt_of_lt_of_le (h.kept x hx).2.2.2 hE.size⟩⟩
theorem PK.write {w0 w w' : World} {S : Nat → Prop} {a tb : Nat} {KR : List (Addr × List Value)} {bs bs' : List Int} {T : Nat → List Int} {vs : Nat → Value} (h : PK w0 w S a tb KR bs T vs)
    (hf : FileR w' (fun k => S k ∨ w.heap.size ≤ k ∧ k < w'.heap.size) a bs') (hm : Mod S w w') : PK w0 w' (fun k => S k ∨ w.heap.size ≤ k ∧ k < w'.heap.size) a tb KR bs' T vs := by
  obtain ⟨ty, ht⟩ := h.tab
  have htb : tb < w.heap.size := (Array.getElem?_eq_some_iff.1 ht).1
  refine ⟨Ext.thenMod h.ext hm (fun k hk hs => by have := h.hS k hs; omega), hf, ?_, ?_, ⟨ty, hm.heap ht h.tbn.1⟩, fun j hj => ?_, ⟨?_, h.tbn.2⟩, fun x hx => ?_⟩
  · rintro k (hk | hk)
    · exact h.hS k hk
    · exact Nat.le_trans h.ext.size hk.1
  · rintro k (hk | hk)
    · exact Nat.lt_of_lt_of_le (h.hS2 k hk) hm.size
    · exact hk.2
  · obtain ⟨ho, hb⟩ := h.own j hj
    refine ⟨hm.owns ho (fun k hk => (hb k hk).1), fun k hk => ⟨?_, (hb k hk).2⟩⟩
    rintro (hs | hs)
    · exact (hb k hk).1 hs
    · have := Own.lt ho hk; omega
  · rintro (hs | hs)
    · exact h.tbn.1 hs
    · omega
  · obtain ⟨h1, h2, h3, h4⟩ := h.kept x hx
    refine ⟨hm.row h1 h2, ?_, h3, Nat.lt_of_lt_of_le h4 hm.size⟩
    rintro (hs | hs)
    · exact h2 hs
    · omega
theorem PK.add {w0 w : World} {S : Nat → Prop} {a tb : Nat} {KR : List (Addr × List Value)} {bs : List Int} {T : Nat → List Int} {vs : Nat → Value} (h : PK w0 w S a tb KR bs T vs) {p : Addr} {xs : List Value}
    (hr : Row w p xs) (hS : ¬ S p.block) (ht : p.block ≠ tb) (hl : p.block < w.heap.size) : PK w0 w S a tb ((p, xs) :: KR) bs T vs :=
  ⟨h.ext, h.file, h.hS, h.hS2, h.tab, h.own, h.tbn, fun x hx => by
    rcases List.mem_cons.1 hx with rfl | hx
    · exact ⟨hr, hS, ht, hl⟩
    · exact h.kept x hx⟩
theorem PK.drop {w0 w : World} {S : Nat → Prop} {a tb : Nat} {x : Addr × List Value} {KR : List (Addr × List Value)} {bs : List Int} {T : Nat → List Int} {vs : Nat → Value} (h : PK w0 w S a tb (x :: KR) bs T vs) : PK w0 w S a tb KR bs T vs :=
  ⟨h.ext, h.file, h.hS, h.hS2, h.tab, h.own, h.tbn, fun y hy => h.kept y (List.mem_cons_of_mem _ hy)⟩
def updF {α : Type} (f : Nat → α) (i : Nat) (x : α) : Nat → α := fun j => if j = i then x else f j
theorem tab_get (vs : Nat → Value) (i : Nat) (hi : i < 3) : (#[vs 0, vs 1, vs 2] : Array Value)[i]? = some (vs i) := by
  match i, hi with
  | 0, _ => rfl
  | 1, _ => rfl
  | 2, _ => rfl
theorem tab_set (vs : Nat → Value) (i : Nat) (hi : i < 3) (v : Value) : (#[vs 0, vs 1, vs 2] : Array Value).setIfInBounds i v = #[updF vs i v 0, updF vs i v 1, updF vs i v 2] := by
  match i, hi with
  | 0, _ => rfl
  | 1, _ => rfl
  | 2, _ => rfl
theorem PK.store {w0 w : World} {S : Nat → Prop} {a tb : Nat} {KR : List (Addr × List Value)} {bs : List Int} {T : Nat → List Int} {vs : Nat → Value} (h : PK w0 w S a tb KR bs T vs) {i : Nat} (hi : i < 3) {v : Value} {t : List Int}
    (ho : Own w 3 1 v t.length (t.map iV)) (hb : ∀ k, v.ownBlock = some k → ¬ S k ∧ k ≠ tb ∧ w0.heap.size ≤ k) :
    PK w0 (w.setRow tb ((#[vs 0, vs 1, vs 2] : Array Value).setIfInBounds i v)) S a tb KR bs (updF T i t) (updF vs i v) := by
  obtain ⟨ty, ht⟩ := h.tab
  have hmod : Mod (fun k => k = tb) w (w.setRow tb ((#[vs 0, vs 1, vs 2] : Array Value).setIfInBounds i v)) := setRow_mod rfl
  refine ⟨Ext.thenMod h.ext hmod (fun k hk hs => by have := h.tbn.2; omega), h.file.mod hmod (fun k hk hs => h.tbn.1 (hs ▸ hk)), h.hS, fun k hk => by have := h.hS2 k hk; simpa using this, ⟨ty, by rw [← tab_set vs i hi v]; exact setRow_heap w tb _ _ ty _ ht⟩, fun j hj => ?_, h.tbn, fun x hx => ?_⟩
  · unfold updF
    by_cases e : j = i
    · rw [if_pos e, if_pos e]
      exact ⟨hmod.owns ho (fun k hk => (hb k hk).2.1), hb⟩
    · rw [if_neg e, if_neg e]
      obtain ⟨h1, h2⟩ := h.own j hj
      exact ⟨hmod.owns h1 (fun k hk => (h2 k hk).2.1), h2⟩
  · obtain ⟨h1, h2, h3, h4⟩ := h.kept x hx
    exact ⟨hmod.row h1 h3, h2, h3, by simpa using h4⟩
theorem PK.tcell {w0 w : World} {S : Nat → Prop} {a tb : Nat} {KR : List (Addr × List Value)} {bs : List Int} {T : Nat → List Int} {vs : Nat → Value} (h : PK w0 w S a tb KR bs T vs) {i : Nat} (hi : i < 3) : w.cell? (Addr.add ⟨tb, 0, none⟩ (i * 1)) = some (vs i) := by
  obtain ⟨ty, ht⟩ := h.tab
  rw [Nat.mul_one]
  exact row_heap ht i _ (by simpa using tab_get vs i hi)
end Go.Proofs.YthfnijlgmjkedaaGreat
namespace Go.Proofs.YthfnijlgmjkedaaGreat
set_option maxRecDepth 100000
set_option linter.unusedVariables false
set_option linter.unusedSimpArgs false
open Go Go.Fx Go.Proofs.YthfnijlgmjkedaaGreat.Tab
/-! ## rows as functions; swaps -/
def swF {α : Type} (f : Nat → α) (i j : Nat) : Nat → α := fun k => if k = j then f i else if k = i then f j else f k
inductive Pm {α : Type} (a b : Nat) (f : Nat → α) : (Nat → α) → Prop
  | refl : Pm a b f f
  | sw {f' : Nat → α} {i j : Nat} (h : Pm a b f f') (hi : a ≤ i ∧ i < b) (hj : a ≤ j ∧ j < b) : Pm a b f (swF f' i j)
section
variable {α : Type} {a b c d : Nat} {f g h : Nat → α}
theorem Pm.trans (h1 : Pm a b f g) (h2 : Pm a b g h) : Pm a b f h := by
  induction h2 with
  | refl => exact h1
  | sw _ hi hj ih => exact .sw ih hi hj
theorem Pm.mono (h1 : Pm a b f g) (hc : c ≤ a) (hd : b ≤ d) : Pm c d f g := by
  induction h1 with
  | refl => exact .refl
  | sw _ hi hj ih => exact .sw ih (by omega) (by omega)
theorem Pm.out (h1 : Pm a b f g) {i : Nat} (hi : i < a ∨ b ≤ i) : g i = f i := by
  induction h1 with
  | refl => rfl
  | sw _ h2 h3 ih => simp only [swF]; rw [if_neg (by omega), if_neg (by omega)]; exact ih
theorem Pm.all (h1 : Pm a b f g) {Q : α → Prop} (hQ : ∀ i, a ≤ i → i < b → Q (f i)) : ∀ i, a ≤ i → i < b → Q (g i) := by
  induction h1 with
  | refl => exact hQ
  | sw _ h2 h3 ih =>
    intro i h4 h5
    simp only [swF]
    split
    · exact ih _ h2.1 h2.2
    · split
      · exact ih _ h3.1 h3.2
      · exact ih _ h4 h5
/-- the segment from a on changes place with the one from b on -/
def swR (f : Nat → α) (a b k : Nat) : Nat → α := fun i => if a ≤ i ∧ i < a + k then f (i - a + b) else if b ≤ i ∧ i < b + k then f (i - b + a) else f i
theorem swR_zero : swR f a b 0 = f := by
  funext i; unfold swR; rw [if_neg (by omega), if_neg (by omega)]
theorem swR_succ (k : Nat) (h : a + k + 1 ≤ b) : swR f a b (k + 1) = swF (swR f a b k) (a + k) (b + k) := by
  funext i
  unfold swF swR
  by_cases h1 : i = b + k
  · subst h1
    rw [if_pos rfl, if_neg (by omega), if_pos (by omega), if_neg (by omega), if_neg (by omega)]
    congr 1; omega
  · rw [if_neg h1]
    by_cases h2 : i = a + k
    · subst h2
      rw [if_pos rfl, if_pos (by omega), if_neg (by omega), if_neg (by omega)]
      congr 1; omega
    · rw [if_neg h2]
      by_cases h3 : a ≤ i ∧ i < a + k
      · rw [if_pos (by omega), if_pos h3]
      · rw [if_neg (by omega), if_neg h3]
        by_cases h4 : b ≤ i ∧ i < b + k
        · rw [if_pos (by omega), if_pos h4]
        · rw [if_neg (by omega), if_neg h4]
theorem swR_pm {lo hi : Nat} (k : Nat) (h : a + k ≤ b) (hlo : lo ≤ a) (hhi : b + k ≤ hi) : Pm lo hi f (swR f a b k) := by
  induction k with
  | zero => rw [swR_zero]; exact .refl
  | succ k ih => rw [swR_succ k (by omega)]; exact .sw (ih (by omega) (by omega)) (by omega) (by omega)
def rotF (f : Nat → α) (a m b : Nat) : Nat → α := fun i => if a ≤ i ∧ i < a + (b - m) then f (i - a + m) else if a + (b - m) ≤ i ∧ i < b then f (i - (b - m)) else f i
theorem rot_gt (i j m : Nat) (hj : 0 < j) (hi : j < i) (hm : i ≤ m) : rotF (swR f (m - i) m j) (m - (i - j)) m (m + j) = rotF f (m - i) m (m + j) := by
  funext t
  unfold rotF swR
  have e : m + j - m = j := by omega
  rw [e]
  by_cases h1 : m - i ≤ t ∧ t < m - i + j
  · rw [if_neg (by omega), if_neg (by omega), if_pos h1, if_pos h1]
  · by_cases h2 : m - (i - j) ≤ t ∧ t < m - (i - j) + j
    · rw [if_pos h2, if_neg (by omega), if_pos (by omega), if_neg h1, if_pos (by omega)]
      congr 1; omega
    · by_cases h3 : m - (i - j) + j ≤ t ∧ t < m + j
      · rw [if_neg h2, if_pos h3, if_neg (by omega), if_neg (by omega), if_neg h1, if_pos (by omega)]
      · rw [if_neg h2, if_neg h3, if_neg h1, if_neg (by omega), if_neg h1, if_neg (by omega)]
theorem rot_lt (i j m : Nat) (hj : 0 < i) (hi : i < j) (hm : i ≤ m) : rotF (swR f (m - i) (m + j - i) i) (m - i) m (m + (j - i)) = rotF f (m - i) m (m + j) := by
  funext t
  unfold rotF swR
  have e : m + (j - i) - m = j - i := by omega
  have e2 : m + j - m = j := by omega
  rw [e, e2]
  by_cases h1 : m - i ≤ t ∧ t < m - i + (j - i)
  · rw [if_pos h1, if_neg (by omega), if_neg (by omega), if_pos (by omega)]
  · by_cases h3 : m - i + (j - i) ≤ t ∧ t < m + (j - i)
    · rw [if_neg h1, if_pos h3, if_pos (by omega), if_pos (by omega)]
      congr 1; omega
    · by_cases h4 : m + j - i ≤ t ∧ t < m + j - i + i
      · rw [if_neg h1, if_neg h3, if_neg (by omega), if_pos h4, if_neg (by omega), if_pos (by omega)]
        congr 1; omega
      · rw [if_neg h1, if_neg h3, if_neg (by omega), if_neg h4, if_neg (by omega), if_neg (by omega)]
theorem rot_eq (i m : Nat) (hm : i ≤ m) : swR f (m - i) m i = rotF f (m - i) m (m + i) := by
  funext t
  unfold rotF swR
  have e : m + i - m = i := by omega
  rw [e]
  by_cases h1 : m - i ≤ t ∧ t < m - i + i
  · rw [if_pos h1, if_pos h1]
  · rw [if_neg h1, if_neg h1]
    by_cases h2 : m ≤ t ∧ t < m + i
    · rw [if_pos h2, if_pos (by omega)]; congr 1; omega
    · rw [if_neg h2, if_neg (by omega)]
end
/-- block g holds the values of f, in rows of four cells -/
def ArrR {α : Type} (C : α → List Value) (w : World) (g n : Nat) (f : Nat → α) : Prop :=
  ∃ cs ty, w.heap[g]? = some (.cells cs ty (0, 0)) ∧ n * 4 ≤ cs.size ∧ ∀ i, i < n → ∀ j v, (C (f i))[j]? = some v → cs[i * 4 + j]? = some v
theorem arr_row {α : Type} {C : α → List Value} {w : World} {g n : Nat} {f : Nat → α} {cs : Array Value} {ty : TypeId} (hh : w.heap[g]? = some (.cells cs ty (0, 0))) (hc : ∀ i, i < n → ∀ j v, (C (f i))[j]? = some v → cs[i * 4 + j]? = some v) {i : Nat} (hi : i < n) :
    Row w ((⟨g, 0, none⟩ : Addr).add (i * 4)) (C (f i)) := fun j v hv => by
  rw [add_add, ad0]
  have := hc i hi j v hv
  simp [World.cell?, hh, this]
theorem splice_size (cs : Array Value) (o : Nat) (vs : List Value) (h : o + vs.length ≤ cs.size) : (splice cs o vs).size = cs.size := by
  simp [splice]; omega
theorem splice_get (cs : Array Value) (o : Nat) (vs : List Value) (h : o + vs.length ≤ cs.size) (k : Nat) : (splice cs o vs)[k]? = if o ≤ k ∧ k < o + vs.length then vs[k - o]? else cs[k]? := by
  simp only [splice, List.getElem?_toArray]
  by_cases h1 : k < o
  · rw [if_neg (by omega), List.append_assoc, List.getElem?_append_left (by simp; omega), List.getElem?_take, if_pos h1]; simp
  · by_cases h2 : k < o + vs.length
    · rw [if_pos (by omega), List.append_assoc, List.getElem?_append_right (by simp; omega), List.getElem?_append_left (by simp; omega)]
      congr 1; simp; omega
    · rw [if_neg (by omega), List.append_assoc, List.getElem?_append_right (by simp; omega), List.getElem?_append_right (by simp; omega), List.getElem?_drop]
      simp; congr 1; omega
theorem arr_set {α : Type} {C : α → List Value} (hC : ∀ x, (C x).length = 4) {n : Nat} {f : Nat → α} {cs : Array Value} (hs : n * 4 ≤ cs.size) (hc : ∀ i, i < n → ∀ j v, (C (f i))[j]? = some v → cs[i * 4 + j]? = some v) {k : Nat} (hk : k < n) (x : α) :
    n * 4 ≤ (splice cs (k * 4) (C x)).size ∧ ∀ i, i < n → ∀ j v, (C (updF f k x i))[j]? = some v → (splice cs (k * 4) (C x))[i * 4 + j]? = some v := by
  have hb : k * 4 + (C x).length ≤ cs.size := by rw [hC]; omega
  refine ⟨by rw [splice_size _ _ _ hb]; exact hs, fun i hi j v hv => ?_⟩
  have hj : j < 4 := by
    have := (List.getElem?_eq_some_iff.1 hv).1
    rwa [hC] at this
  rw [splice_get _ _ _ hb, hC]
  unfold updF at hv
  by_cases he : i = k
  · subst he
    rw [if_pos rfl] at hv
    rw [if_pos (by omega), ← hv]
    congr 1; omega
  · rw [if_neg he] at hv
    rw [if_neg (by omega)]
    exact hc i hi j v hv
theorem sw_upd {α : Type} (f : Nat → α) (i j : Nat) : updF (updF f i (f j)) j (f i) = swF f i j := by
  funext k; unfold updF swF; rfl
section
variable {w : World} {g n c : Nat} {cv : Value}
theorem mod_two {w : World} {g : Nat} {cs cs' : Array Value} : Mod (fun k => k = g) w ((w.setRow g cs).setRow g cs') := (setRow_mod (M := fun k => k = g) rfl).trans (setRow_mod (M := fun k => k = g) rfl)
theorem slices_swapRange_CharMetric_c {f : Nat → Ch} {a b k : Nat} (h : ArrR chC w g n f) (hab : a + k ≤ b) (hb : b + k ≤ n) (hn : n ≤ 1000000) :
    Ret Go.Proofs.Tryz.prog 131 #[.slice (some ⟨g, 0, none⟩) n c, iV a, iV b, iV k, cv] w fun v w' => v = .tuple #[] ∧ ArrR chC w' g n (swR f a b k) ∧ Mod (fun k => k = g) w w' := by
  refine enter Go.Proofs.Tryz.func131 rfl rfl rfl ?_
  refine W_sr rfl (s_as rfl (s_nil ?_))
  refine W_block ?_
  refine W_loop (fun m ρ w' => ∃ ρ' i, ρ = upd (upd (upd (upd (upd ρ' 0 (.slice (some ⟨g, 0, none⟩) n c)) 1 (iV a)) 2 (iV b)) 3 (iV k)) 10 (iV (i : Nat)) ∧ i ≤ k ∧ m = k - i ∧ ArrR chC w' g n (swR f a b i) ∧ Mod (fun k => k = g) w w') k
    ⟨_, 0, u5 rfl rfl rfl rfl rfl, by omega, by omega, by rw [swR_zero]; exact h, Mod.refl⟩ ?_
  rintro m _ w1 ⟨ρ, i, rfl, hi, rfl, ⟨cs, ty, hh, hsz, hc⟩, hM⟩
  refine W_seq ?_
  refine W_sr rfl (s_mv rfl (s_mv rfl (s_lss rfl rfl (s_nil ?_))))
  refine W_if rfl (fun hd => W_skip ?_) (fun hd => W_exit ?_)
  · have hd := of_decide_eq_true hd
    have hik : i < k := by omega
    have hai : a + i < n := by omega
    have hbi : b + i < n := by omega
    have set1 := arr_set chC_len hsz hc hai (swR f a b i (b + i))
    have set2 := arr_set chC_len set1.1 set1.2 hbi (swR f a b i (a + i))
    refine W_seq (W_block ?_)
    refine W_d (fun w' => w'.heap[g]? = some (.cells cs ty (0, 0))) [21, 22, 23] orders (D_pure 0 rfl rfl (by kernel_rfl) rfl (fun _ => r_mv rfl) (fun _ => hh) (D_pure 1 rfl rfl (by kernel_rfl) rfl (fun _ => r_mv rfl) (fun _ => hh) (D_pure 2 rfl rfl (by kernel_rfl) rfl (fun _ => r_mv rfl) (fun _ => hh) (D_pure 3 rfl rfl (by kernel_rfl) rfl (fun _ => r_add rfl rfl (by omega)) (fun _ => hh) (D_pure 4 rfl rfl (by kernel_rfl) rfl (fun _ => r_mv rfl) (fun _ => hh) (D_pure 5 rfl rfl (by kernel_rfl) rfl (fun _ => r_mv rfl) (fun _ => hh) (D_pure 6 rfl rfl (by kernel_rfl) rfl (fun _ => r_mv rfl) (fun _ => hh) (D_pure 7 rfl rfl (by kernel_rfl) rfl (fun _ => r_add rfl rfl (by omega)) (fun _ => hh) (D_pure 8 rfl rfl (by kernel_rfl) rfl (fun _ => r_mv rfl) (fun _ => hh) (D_pure 9 rfl rfl (by kernel_rfl) rfl (fun _ => r_mv rfl) (fun _ => hh) (D_pure 10 rfl rfl (by kernel_rfl) rfl (fun _ => r_mv rfl) (fun _ => hh) (D_pure 11 rfl rfl (by kernel_rfl) rfl (fun _ => r_add rfl rfl (by omega)) (fun _ => hh) (D_pure 12 rfl rfl (by kernel_rfl) rfl (fun _ => r_ia E rfl rfl rfl (show (b : Int) + i = ((b + i : Nat) : Int) by omega) hbi) (fun _ => hh) (D_take 13 rfl rfl (by kernel_rfl) rfl (fun _ hs => r_lda E rfl rfl (arr_row hs hc hbi) rfl) hh (D_pure 14 rfl rfl (by kernel_rfl) rfl (fun _ => r_mv rfl) (fun _ => hh) (D_pure 15 rfl rfl (by kernel_rfl) rfl (fun _ => r_mv rfl) (fun _ => hh) (D_pure 16 rfl rfl (by kernel_rfl) rfl (fun _ => r_mv rfl) (fun _ => hh) (D_pure 17 rfl rfl (by kernel_rfl) rfl (fun _ => r_add rfl rfl (by omega)) (fun _ => hh) (D_pure 18 rfl rfl (by kernel_rfl) rfl (fun _ => r_ia E rfl rfl rfl (show (a : Int) + i = ((a + i : Nat) : Int) by omega) hai) (fun _ => hh) (D_take 19 rfl rfl (by kernel_rfl) rfl (fun _ hs => r_lda E rfl rfl (arr_row hs hc hai) rfl) hh (D_pure 20 rfl rfl (by kernel_rfl) rfl (fun _ => r_ia E rfl rfl rfl (show (a : Int) + i = ((a + i : Nat) : Int) by omega) hai) (fun _ => hh) (D_oneM 21 rfl (by kernel_rfl) rfl (by kernel_rfl) (s_st E (vs := chC (swR f a b i (b + i))) rfl rfl (ad0 g _) rfl hh rfl rfl rfl (by rw [chC_len]; omega) (s_nil (D_oneM 22 rfl (by kernel_rfl) rfl (by kernel_rfl) (s_ia E rfl rfl rfl (show (b : Int) + i = ((b + i : Nat) : Int) by omega) hbi (s_nil (D_oneM 23 rfl (by kernel_rfl) rfl (by kernel_rfl) (s_st E (vs := chC (swR f a b i (a + i))) rfl rfl (ad0 g _) rfl (setRow_heap _ _ _ _ ty (0, 0) hh) rfl rfl rfl (by have := set1.1; rw [chC_len]; omega) (s_nil (D_done (by kernel_rfl) ?_)))))))))))))))))))))))))))))))
    refine W_reg rfl (s_mv rfl (s_add rfl rfl (by omega) (s_as rfl (s_nil ?_))))
    refine ⟨k - (i + 1), by omega, _, i + 1, u5 rfl rfl rfl rfl rfl, by omega, rfl, ⟨_, ty, setRow_heap _ _ _ _ ty (0, 0) (setRow_heap _ _ _ _ ty (0, 0) hh), set2.1, ?_⟩, hM.trans ((Mod.of_ext Ext.drew0).trans mod_two)⟩
    rw [swR_succ i (by omega), ← sw_upd]
    exact set2.2
  · have hd := of_decide_eq_false hd
    have hik : i = k := by omega
    subst hik
    exact ⟨_, rfl, rfl, ⟨cs, ty, hh, hsz, hc⟩, hM⟩
theorem slices_swapRange_LigRule_c {f : Nat → Ru} {a b k : Nat} (h : ArrR ruC w g n f) (hab : a + k ≤ b) (hb : b + k ≤ n) (hn : n ≤ 1000000) :
    Ret Go.Proofs.Tryz.prog 132 #[.slice (some ⟨g, 0, none⟩) n c, iV a, iV b, iV k, cv] w fun v w' => v = .tuple #[] ∧ ArrR ruC w' g n (swR f a b k) ∧ Mod (fun k => k = g) w w' := by
  refine enter Go.Proofs.Tryz.func132 rfl rfl rfl ?_
  refine W_sr rfl (s_as rfl (s_nil ?_))
  refine W_block ?_
  refine W_loop (fun m ρ w' => ∃ ρ' i, ρ = upd (upd (upd (upd (upd ρ' 0 (.slice (some ⟨g, 0, none⟩) n c)) 1 (iV a)) 2 (iV b)) 3 (iV k)) 10 (iV (i : Nat)) ∧ i ≤ k ∧ m = k - i ∧ ArrR ruC w' g n (swR f a b i) ∧ Mod (fun k => k = g) w w') k
    ⟨_, 0, u5 rfl rfl rfl rfl rfl, by omega, by omega, by rw [swR_zero]; exact h, Mod.refl⟩ ?_
  rintro m _ w1 ⟨ρ, i, rfl, hi, rfl, ⟨cs, ty, hh, hsz, hc⟩, hM⟩
  refine W_seq ?_
  refine W_sr rfl (s_mv rfl (s_mv rfl (s_lss rfl rfl (s_nil ?_))))
  refine W_if rfl (fun hd => W_skip ?_) (fun hd => W_exit ?_)
  · have hd := of_decide_eq_true hd
    have hik : i < k := by omega
    have hai : a + i < n := by omega
    have hbi : b + i < n := by omega
    have set1 := arr_set ruC_len hsz hc hai (swR f a b i (b + i))
    have set2 := arr_set ruC_len set1.1 set1.2 hbi (swR f a b i (a + i))
    refine W_seq (W_block ?_)
    refine W_d (fun w' => w'.heap[g]? = some (.cells cs ty (0, 0))) [21, 22, 23] orders (D_pure 0 rfl rfl (by kernel_rfl) rfl (fun _ => r_mv rfl) (fun _ => hh) (D_pure 1 rfl rfl (by kernel_rfl) rfl (fun _ => r_mv rfl) (fun _ => hh) (D_pure 2 rfl rfl (by kernel_rfl) rfl (fun _ => r_mv rfl) (fun _ => hh) (D_pure 3 rfl rfl (by kernel_rfl) rfl (fun _ => r_add rfl rfl (by omega)) (fun _ => hh) (D_pure 4 rfl rfl (by kernel_rfl) rfl (fun _ => r_mv rfl) (fun _ => hh) (D_pure 5 rfl rfl (by kernel_rfl) rfl (fun _ => r_mv rfl) (fun _ => hh) (D_pure 6 rfl rfl (by kernel_rfl) rfl (fun _ => r_mv rfl) (fun _ => hh) (D_pure 7 rfl rfl (by kernel_rfl) rfl (fun _ => r_add rfl rfl (by omega)) (fun _ => hh) (D_pure 8 rfl rfl (by kernel_rfl) rfl (fun _ => r_mv rfl) (fun _ => hh) (D_pure 9 rfl rfl (by kernel_rfl) rfl (fun _ => r_mv rfl) (fun _ => hh) (D_pure 10 rfl rfl (by kernel_rfl) rfl (fun _ => r_mv rfl) (fun _ => hh) (D_pure 11 rfl rfl (by kernel_rfl) rfl (fun _ => r_add rfl rfl (by omega)) (fun _ => hh) (D_pure 12 rfl rfl (by kernel_rfl) rfl (fun _ => r_ia E rfl rfl rfl (show (b : Int) + i = ((b + i : Nat) : Int) by omega) hbi) (fun _ => hh) (D_take 13 rfl rfl (by kernel_rfl) rfl (fun _ hs => r_lda E rfl rfl (arr_row hs hc hbi) rfl) hh (D_pure 14 rfl rfl (by kernel_rfl) rfl (fun _ => r_mv rfl) (fun _ => hh) (D_pure 15 rfl rfl (by kernel_rfl) rfl (fun _ => r_mv rfl) (fun _ => hh) (D_pure 16 rfl rfl (by kernel_rfl) rfl (fun _ => r_mv rfl) (fun _ => hh) (D_pure 17 rfl rfl (by kernel_rfl) rfl (fun _ => r_add rfl rfl (by omega)) (fun _ => hh) (D_pure 18 rfl rfl (by kernel_rfl) rfl (fun _ => r_ia E rfl rfl rfl (show (a : Int) + i = ((a + i : Nat) : Int) by omega) hai) (fun _ => hh) (D_take 19 rfl rfl (by kernel_rfl) rfl (fun _ hs => r_lda E rfl rfl (arr_row hs hc hai) rfl) hh (D_pure 20 rfl rfl (by kernel_rfl) rfl (fun _ => r_ia E rfl rfl rfl (show (a : Int) + i = ((a + i : Nat) : Int) by omega) hai) (fun _ => hh) (D_oneM 21 rfl (by kernel_rfl) rfl (by kernel_rfl) (s_st E (vs := ruC (swR f a b i (b + i))) rfl rfl (ad0 g _) rfl hh rfl rfl rfl (by rw [ruC_len]; omega) (s_nil (D_oneM 22 rfl (by kernel_rfl) rfl (by kernel_rfl) (s_ia E rfl rfl rfl (show (b : Int) + i = ((b + i : Nat) : Int) by omega) hbi (s_nil (D_oneM 23 rfl (by kernel_rfl) rfl (by kernel_rfl) (s_st E (vs := ruC (swR f a b i (a + i))) rfl rfl (ad0 g _) rfl (setRow_heap _ _ _ _ ty (0, 0) hh) rfl rfl rfl (by have := set1.1; rw [ruC_len]; omega) (s_nil (D_done (by kernel_rfl) ?_)))))))))))))))))))))))))))))))
    refine W_reg rfl (s_mv rfl (s_add rfl rfl (by omega) (s_as rfl (s_nil ?_))))
    refine ⟨k - (i + 1), by omega, _, i + 1, u5 rfl rfl rfl rfl rfl, by omega, rfl, ⟨_, ty, setRow_heap _ _ _ _ ty (0, 0) (setRow_heap _ _ _ _ ty (0, 0) hh), set2.1, ?_⟩, hM.trans ((Mod.of_ext Ext.drew0).trans mod_two)⟩
    rw [swR_succ i (by omega), ← sw_upd]
    exact set2.2
  · have hd := of_decide_eq_false hd
    have hik : i = k := by omega
    subst hik
    exact ⟨_, rfl, rfl, ⟨cs, ty, hh, hsz, hc⟩, hM⟩
end
end Go.Proofs.YthfnijlgmjkedaaGreat
namespace Go.Proofs.YthfnijlgmjkedaaGreat
set_option maxRecDepth 100000
set_option linter.unusedVariables false
set_option linter.unusedSimpArgs false
open Go Go.Fx Go.Proofs.YthfnijlgmjkedaaGreat.Tab
/-- cmp is an order up to equal elements -/
structure Ordr {α : Type} (cmp : α → α → Int) : Prop where
  asym : ∀ x y, cmp x y < 0 → 0 ≤ cmp y x
  tr : ∀ x y z, 0 ≤ cmp y x → 0 ≤ cmp z y → 0 ≤ cmp z x
def Srt {α : Type} (cmp : α → α → Int) (f : Nat → α) (a b : Nat) : Prop := ∀ i j, a ≤ i → i < j → j < b → 0 ≤ cmp (f j) (f i)
theorem ins_sw {α : Type} {cmp : α → α → Int} (ho : Ordr cmp) {f : Nat → α} {a i j : Nat} (hj : a < j) (hi : j ≤ i) (h : ∀ p q, a ≤ p → p < q → q ≤ i → q ≠ j → 0 ≤ cmp (f q) (f p)) (hl : cmp (f j) (f (j - 1)) < 0) :
    ∀ p q, a ≤ p → p < q → q ≤ i → q ≠ j - 1 → 0 ≤ cmp (swF f j (j - 1) q) (swF f j (j - 1) p) := by
  intro p q hp hpq hq hne
  unfold swF
  rw [if_neg hne]
  by_cases h1 : q = j
  · rw [if_pos h1]
    by_cases h2 : p = j - 1
    · rw [if_pos h2]; exact ho.asym _ _ hl
    · rw [if_neg h2, if_neg (by omega)]; exact h _ _ hp (by omega) (by omega) (by omega)
  · rw [if_neg h1]
    by_cases h2 : p = j - 1
    · rw [if_pos h2]; exact h _ _ (by omega) (by omega) hq h1
    · rw [if_neg h2]
      by_cases h3 : p = j
      · rw [if_pos h3]; exact h _ _ (by omega) (by omega) hq h1
      · rw [if_neg h3]; exact h _ _ hp hpq hq h1
theorem ins_done {α : Type} {cmp : α → α → Int} (ho : Ordr cmp) {f : Nat → α} {a i j : Nat} (hi : j ≤ i) (h : ∀ p q, a ≤ p → p < q → q ≤ i → q ≠ j → 0 ≤ cmp (f q) (f p)) (hl : j ≤ a ∨ 0 ≤ cmp (f j) (f (j - 1))) : Srt cmp f a (i + 1) := by
  intro p q hp hpq hq
  by_cases e : q = j
  · subst e
    rcases hl with hl | hl
    · omega
    · by_cases e2 : p = q - 1
      · subst e2; exact hl
      · exact ho.tr _ _ _ (h p (q - 1) hp (by omega) (by omega) (by omega)) hl
  · exact h p q hp hpq (by omega) e
section
variable {w : World} {g n c : Nat} {cv : Value}
theorem cell_row {α : Type} {C : α → List Value} {w1 w' : World} {g n : Nat} {f : Nat → α} {cs : Array Value} {ty : TypeId} (hh : w1.heap[g]? = some (.cells cs ty (0, 0))) (hc : ∀ i, i < n → ∀ j v, (C (f i))[j]? = some v → cs[i * 4 + j]? = some v) {i : Nat} (hi : i < n) (hE : Ext w1 w') :
    Row w' ((⟨g, 0, none⟩ : Addr).add (i * 4)) (C (f i)) := arr_row (Ext.heap hE hh) hc hi
theorem slices_rotate_CharMetric_c {f : Nat → Ch} {a m b : Nat} (h : ArrR chC w g n f) (ham : a < m) (hmb : m < b) (hb : b ≤ n) (hn : n ≤ 1000000) :
    Ret Go.Proofs.Tryz.prog 124 #[.slice (some ⟨g, 0, none⟩) n c, iV a, iV m, iV b, cv] w fun v w' => v = .tuple #[] ∧ ArrR chC w' g n (rotF f a m b) ∧ Pm a b f (rotF f a m b) ∧ Mod (fun k => k = g) w w' := by
  refine enter Go.Proofs.Tryz.func124 rfl rfl rfl ?_
  refine W_sr rfl (s_mv rfl (s_mv rfl (s_sub rfl rfl (by omega) (s_as rfl (s_nil ?_)))))
  refine W_sr rfl (s_mv rfl (s_mv rfl (s_sub rfl rfl (by omega) (s_as rfl (s_nil ?_)))))
  refine W_seq ?_
  refine W_block ?_
  refine W_loop (fun q ρ w' => ∃ ρ' i j f', ρ = upd (upd (upd (upd (upd ρ' 0 (.slice (some ⟨g, 0, none⟩) n c)) 2 (iV m)) 4 cv) 10 (iV (i : Nat))) 11 (iV (j : Nat)) ∧ 0 < i ∧ 0 < j ∧ i ≤ m - a ∧ j ≤ b - m ∧ q = i + j ∧
      ArrR chC w' g n f' ∧ Pm a b f f' ∧ rotF f' (m - i) m (m + j) = rotF f a m b ∧ Mod (fun k => k = g) w w') (m - a + (b - m))
    ⟨_, m - a, b - m, f, u5 rfl rfl rfl (congrArg iV (show (m : Int) - a = ((m - a : Nat) : Int) by omega)) (congrArg iV (show (b : Int) - m = ((b - m : Nat) : Int) by omega)), by omega, by omega, by omega, by omega, rfl, h, .refl, by rw [show m - (m - a) = a by omega, show m + (b - m) = b by omega], Mod.refl⟩ ?_
  rintro q _ w1 ⟨ρ, i, j, f1, rfl, hi0, hj0, hi, hj, rfl, hA, hP, hR, hM⟩
  refine W_seq ?_
  refine W_sr rfl (s_mv rfl (s_mv rfl (s_neq rfl rfl (s_nil ?_))))
  refine W_if rfl (fun hd => W_skip ?_) (fun hd => W_exit ?_)
  · have hd : i ≠ j := by have := of_decide_eq_true hd; omega
    refine W_block ?_
    refine W_sr rfl (s_mv rfl (s_mv rfl (s_gtr rfl rfl (s_nil ?_))))
    refine W_if rfl (fun he => ?_) (fun he => ?_)
    · have he := of_decide_eq_true he
      have hji : j < i := by omega
      have call := slices_swapRange_CharMetric_c (c := c) (cv := cv) (a := m - i) (b := m) (k := j) hA (by omega) (by omega) hn
      rw [show ((m - i : Nat) : Int) = (m : Int) - i by omega] at call
      refine W_sr rfl (s_mv rfl (s_mv rfl (s_mv rfl (s_sub rfl rfl (by omega) (s_mv rfl (s_mv rfl (s_mv rfl (s_callx rfl rfl call fun w2 h2 => (s_nil ?_)))))))))
      refine W_reg rfl (s_mv rfl (s_mv rfl (s_sub rfl rfl (by omega) (s_as rfl (s_nil ?_)))))
      refine ⟨i - j + j, by omega, _, i - j, j, _, u5 rfl rfl rfl (congrArg iV (show (i : Int) - j = ((i - j : Nat) : Int) by omega)) rfl, by omega, hj0, by omega, hj, rfl, h2.1, hP.trans (swR_pm j (by omega) (by omega) (by omega)), ?_, hM.trans h2.2⟩
      rw [rot_gt i j m hj0 hji (by omega), hR]
    · have he := of_decide_eq_false he
      have hji : i < j := by omega
      have call := slices_swapRange_CharMetric_c (c := c) (cv := cv) (a := m - i) (b := m + j - i) (k := i) hA (by omega) (by omega) hn
      rw [show ((m - i : Nat) : Int) = (m : Int) - i by omega, show ((m + j - i : Nat) : Int) = (m : Int) + j - i by omega] at call
      refine W_sr rfl (s_mv rfl (s_mv rfl (s_mv rfl (s_sub rfl rfl (by omega) (s_mv rfl (s_mv rfl (s_add rfl rfl (by omega) (s_mv rfl (s_sub rfl rfl (by omega) (s_mv rfl (s_mv rfl (s_callx rfl rfl call fun w2 h2 => (s_nil ?_)))))))))))))
      refine W_reg rfl (s_mv rfl (s_mv rfl (s_sub rfl rfl (by omega) (s_as rfl (s_nil ?_)))))
      refine ⟨i + (j - i), by omega, _, i, j - i, _, u5 rfl rfl rfl rfl (congrArg iV (show (j : Int) - i = ((j - i : Nat) : Int) by omega)), hi0, by omega, hi, by omega, rfl, h2.1, hP.trans (swR_pm i (by omega) (by omega) (by omega)), ?_, hM.trans h2.2⟩
      rw [rot_lt i j m hi0 hji (by omega), hR]
  · have hd : i = j := by have := of_decide_eq_false hd; omega
    subst hd
    have call := slices_swapRange_CharMetric_c (c := c) (cv := cv) (a := m - i) (b := m) (k := i) hA (by omega) (by omega) hn
    rw [show ((m - i : Nat) : Int) = (m : Int) - i by omega] at call
    refine W_reg rfl (s_mv rfl (s_mv rfl (s_mv rfl (s_sub rfl rfl (by omega) (s_mv rfl (s_mv rfl (s_mv rfl (s_callx rfl rfl call fun w2 h2 => (s_nil ?_)))))))))
    have e := rot_eq (f := f1) i m (by omega)
    refine ⟨_, rfl, rfl, ?_, ?_, hM.trans h2.2⟩
    · rw [← hR, ← e]; exact h2.1
    · rw [← hR, ← e]; exact hP.trans (swR_pm i (by omega) (by omega) (by omega))
theorem slices_insertionSort_CharMetric_c {f : Nat → Ch} {a b : Nat} {gc : FuncId} {cmp : Ch → Ch → Int} (ho : Ordr cmp) (hg : ∀ x y w, Ret Go.Proofs.Tryz.prog gc #[chV x, chV y] w fun v w' => v = iV (cmp x y) ∧ Ext w w')
    (h : ArrR chC w g n f) (hab : a ≤ b) (hb : b ≤ n) (hn : n ≤ 1000000) :
    Ret Go.Proofs.Tryz.prog 110 #[.slice (some ⟨g, 0, none⟩) n c, iV a, iV b, .func (.func gc) #[] #[]] w fun v w' => v = .tuple #[] ∧ ∃ f', ArrR chC w' g n f' ∧ Pm a b f f' ∧ Srt cmp f' a b ∧ Mod (fun k => k = g) w w' := by
  refine enter Go.Proofs.Tryz.func110 rfl rfl rfl ?_
  refine W_sr rfl (s_mv rfl (s_add rfl rfl (by omega) (s_as rfl (s_nil ?_))))
  refine W_block ?_
  refine W_loop (fun q ρ w' => ∃ ρ' i f', ρ = upd (upd (upd (upd (upd ρ' 0 (.slice (some ⟨g, 0, none⟩) n c)) 1 (iV a)) 2 (iV b)) 3 (.func (.func gc) #[] #[])) 8 (iV (i : Nat)) ∧ a < i ∧ (a < b → i ≤ b) ∧ q = b - i ∧ ArrR chC w' g n f' ∧ Pm a b f f' ∧ Srt cmp f' a i ∧ Mod (fun k => k = g) w w') (b - (a + 1))
    ⟨_, a + 1, f, u5 rfl rfl rfl rfl rfl, by omega, by omega, rfl, h, .refl, fun i j h1 h2 h3 => by omega, Mod.refl⟩ ?_
  rintro q _ w1 ⟨ρ, i, f1, rfl, hai, hib, rfl, hA, hP, hS, hM⟩
  refine W_seq ?_
  refine W_sr rfl (s_mv rfl (s_mv rfl (s_lss rfl rfl (s_nil ?_))))
  refine W_if rfl (fun hd => W_skip ?_) (fun hd => W_exit ?_)
  · have hd := of_decide_eq_true hd
    have hib : i < b := by omega
    refine W_seq (W_block ?_)
    refine W_sr rfl (s_mv rfl (s_as rfl (s_nil ?_)))
    refine W_block ?_
    refine W_loop (fun q ρ w' => ∃ ρ' j f', ρ = upd (upd (upd (upd (upd (upd ρ' 0 (.slice (some ⟨g, 0, none⟩) n c)) 1 (iV a)) 2 (iV b)) 3 (.func (.func gc) #[] #[])) 8 (iV (i : Nat))) 9 (iV (j : Nat)) ∧ j ≤ i ∧ a ≤ j ∧ q = 0 + j ∧ ArrR chC w' g n f' ∧ Pm a b f f' ∧ (∀ p q, a ≤ p → p < q → q ≤ i → q ≠ j → 0 ≤ cmp (f' q) (f' p)) ∧ Mod (fun k => k = g) w w') (0 + i)
      ⟨_, i, f1, u6 rfl rfl rfl rfl rfl rfl, by omega, by omega, rfl, hA, hP, fun p q h1 h2 h3 h4 => hS p q h1 h2 (by omega), hM⟩ ?_
    clear hA hP hS hM
    rintro q _ w2 ⟨ρ, j, f2, rfl, hj, haj, rfl, ⟨cs, ty, hh, hsz, hc⟩, hP, hS, hM⟩
    refine W_seq ?_
    by_cases h0 : (a : Int) < j
    · have hj1 : j - 1 < n := by omega
      refine W_qr (Ext w2) orders rfl (by kernel_rfl) (Ext.drew0) (q_mv rfl (q_mv rfl (q_cmp (c := true) rfl rfl (decide_eq_true h0) (q_mv rfl (q_g1 rfl (q_mv rfl (q_g1 rfl (q_mv rfl (q_g1 rfl (q_mv rfl (q_g1 rfl (q_ia E rfl rfl rfl rfl (by omega) (q_g1 rfl (q_lda E rfl rfl (fun w' hE => cell_row hh hc (show j < n by omega) hE) rfl (q_g1 rfl (q_mv rfl (q_g1 rfl (q_mv rfl (q_g1 rfl (q_sub rfl rfl (by omega) (q_g1 rfl (q_ia E rfl rfl rfl (show (j : Int) - 1 = ((j - 1 : Nat) : Int) by omega) hj1 (q_g1 rfl (q_lda E rfl rfl (fun w' hE => cell_row hh hc hj1 hE) rfl (q_g1 rfl (q_call rfl rfl (hg (f2 j) (f2 (j - 1)) w).1 (fun w' hw' => (hg _ _ w').mono fun v w'' h => ⟨h.1, hw'.trans h.2⟩) (q_g1 rfl (q_lss rfl rfl (q_pk rfl (q_nil ?_))))))))))))))))))))))))))))))
      intro w3 hE3
      refine W_if rfl (fun he => W_skip ?_) (fun he => W_exit ?_)
      · have he := of_decide_eq_true he
        have hh3 := Ext.heap hE3 hh
        have set1 := arr_set chC_len hsz hc (show j < n by omega) (f2 (j - 1))
        have set2 := arr_set chC_len set1.1 set1.2 hj1 (f2 j)
        refine W_seq (W_block ?_)
        refine W_d (fun w' => w'.heap[g]? = some (.cells cs ty (0, 0))) [15, 16, 17] orders (D_pure 0 rfl rfl (by kernel_rfl) rfl (fun _ => r_mv rfl) (fun _ => hh3) (D_pure 1 rfl rfl (by kernel_rfl) rfl (fun _ => r_mv rfl) (fun _ => hh3) (D_pure 2 rfl rfl (by kernel_rfl) rfl (fun _ => r_mv rfl) (fun _ => hh3) (D_pure 3 rfl rfl (by kernel_rfl) rfl (fun _ => r_mv rfl) (fun _ => hh3) (D_pure 4 rfl rfl (by kernel_rfl) rfl (fun _ => r_sub rfl rfl (by omega)) (fun _ => hh3) (D_pure 5 rfl rfl (by kernel_rfl) rfl (fun _ => r_mv rfl) (fun _ => hh3) (D_pure 6 rfl rfl (by kernel_rfl) rfl (fun _ => r_mv rfl) (fun _ => hh3) (D_pure 7 rfl rfl (by kernel_rfl) rfl (fun _ => r_sub rfl rfl (by omega)) (fun _ => hh3) (D_pure 8 rfl rfl (by kernel_rfl) rfl (fun _ => r_ia E rfl rfl rfl (show (j : Int) - 1 = ((j - 1 : Nat) : Int) by omega) hj1) (fun _ => hh3) (D_take 9 rfl rfl (by kernel_rfl) rfl (fun _ hs => r_lda E rfl rfl (arr_row hs hc hj1) rfl) hh3 (D_pure 10 rfl rfl (by kernel_rfl) rfl (fun _ => r_mv rfl) (fun _ => hh3) (D_pure 11 rfl rfl (by kernel_rfl) rfl (fun _ => r_mv rfl) (fun _ => hh3) (D_pure 12 rfl rfl (by kernel_rfl) rfl (fun _ => r_ia E rfl rfl rfl rfl (by omega)) (fun _ => hh3) (D_take 13 rfl rfl (by kernel_rfl) rfl (fun _ hs => r_lda E rfl rfl (arr_row hs hc (show j < n by omega)) rfl) hh3 (D_pure 14 rfl rfl (by kernel_rfl) rfl (fun _ => r_ia E rfl rfl rfl rfl (by omega)) (fun _ => hh3) (D_oneM 15 rfl (by kernel_rfl) rfl (by kernel_rfl) (s_st E (vs := chC (f2 (j - 1))) rfl rfl (ad0 g _) rfl hh3 rfl rfl rfl (by rw [chC_len]; omega) (s_nil (D_oneM 16 rfl (by kernel_rfl) rfl (by kernel_rfl) (s_ia E rfl rfl rfl (show (j : Int) - 1 = ((j - 1 : Nat) : Int) by omega) hj1 (s_nil (D_oneM 17 rfl (by kernel_rfl) rfl (by kernel_rfl) (s_st E (vs := chC (f2 j)) rfl rfl (ad0 g _) rfl (setRow_heap _ _ _ _ ty (0, 0) hh3) rfl rfl rfl (by have := set1.1; rw [chC_len]; omega) (s_nil (D_done (by kernel_rfl) ?_)))))))))))))))))))))))))
        refine W_reg rfl (s_mv rfl (s_sub rfl rfl (by omega) (s_as rfl (s_nil ?_))))
        refine ⟨0 + (j - 1), by omega, _, j - 1, swF f2 j (j - 1), u6 rfl rfl rfl rfl rfl (congrArg iV (show (j : Int) - 1 = ((j - 1 : Nat) : Int) by omega)), by omega, by omega, rfl, ⟨_, ty, setRow_heap _ _ _ _ ty (0, 0) (setRow_heap _ _ _ _ ty (0, 0) hh3), set2.1, ?_⟩, .sw hP (by omega) (by omega), ins_sw ho (by omega) hj hS he, (hM.trans (Mod.of_ext hE3)).trans ((Mod.of_ext Ext.drew0).trans mod_two)⟩
        rw [← sw_upd]
        exact set2.2
      · have he := of_decide_eq_false he
        refine W_reg rfl (s_mv rfl (s_add rfl rfl (by omega) (s_as rfl (s_nil ?_))))
        exact ⟨b - (i + 1), by omega, _, i + 1, f2, u5 rfl rfl rfl rfl rfl, by omega, by omega, rfl, ⟨cs, ty, Ext.heap hE3 hh, hsz, hc⟩, hP, ins_done ho hj hS (.inr (by omega)), hM.trans (Mod.of_ext hE3)⟩
    · refine W_qr (Ext w2) orders rfl (by kernel_rfl) (Ext.drew0) (q_mv rfl (q_mv rfl (q_cmp (c := false) rfl rfl (decide_eq_false h0) (q_mv rfl (q_g0 rfl (q_g0 rfl (q_g0 rfl (q_g0 rfl (q_g0 rfl (q_g0 rfl (q_g0 rfl (q_g0 rfl (q_g0 rfl (q_g0 rfl (q_g0 rfl (q_g0 rfl (q_pk rfl (q_nil ?_))))))))))))))))))
      intro w3 hE3
      refine W_if rfl (fun he => by cases he) (fun he => W_exit ?_)
      refine W_reg rfl (s_mv rfl (s_add rfl rfl (by omega) (s_as rfl (s_nil ?_))))
      exact ⟨b - (i + 1), by omega, _, i + 1, f2, u5 rfl rfl rfl rfl rfl, by omega, by omega, rfl, ⟨cs, ty, Ext.heap hE3 hh, hsz, hc⟩, hP, ins_done ho hj hS (.inl (by omega)), hM.trans (Mod.of_ext hE3)⟩
  · have hd := of_decide_eq_false hd
    refine ⟨_, rfl, rfl, f1, hA, hP, fun p q h1 h2 h3 => hS p q h1 h2 (by omega), hM⟩
theorem slices_rotate_LigRule_c {f : Nat → Ru} {a m b : Nat} (h : ArrR ruC w g n f) (ham : a < m) (hmb : m < b) (hb : b ≤ n) (hn : n ≤ 1000000) :
    Ret Go.Proofs.Tryz.prog 125 #[.slice (some ⟨g, 0, none⟩) n c, iV a, iV m, iV b, cv] w fun v w' => v = .tuple #[] ∧ ArrR ruC w' g n (rotF f a m b) ∧ Pm a b f (rotF f a m b) ∧ Mod (fun k => k = g) w w' := by
  refine enter Go.Proofs.Tryz.func125 rfl rfl rfl ?_
  refine W_sr rfl (s_mv rfl (s_mv rfl (s_sub rfl rfl (by omega) (s_as rfl (s_nil ?_)))))
  refine W_sr rfl (s_mv rfl (s_mv rfl (s_sub rfl rfl (by omega) (s_as rfl (s_nil ?_)))))
  refine W_seq ?_
  refine W_block ?_
  refine W_loop (fun q ρ w' => ∃ ρ' i j f', ρ = upd (upd (upd (upd (upd ρ' 0 (.slice (some ⟨g, 0, none⟩) n c)) 2 (iV m)) 4 cv) 10 (iV (i : Nat))) 11 (iV (j : Nat)) ∧ 0 < i ∧ 0 < j ∧ i ≤ m - a ∧ j ≤ b - m ∧ q = i + j ∧
      ArrR ruC w' g n f' ∧ Pm a b f f' ∧ rotF f' (m - i) m (m + j) = rotF f a m b ∧ Mod (fun k => k = g) w w') (m - a + (b - m))
    ⟨_, m - a, b - m, f, u5 rfl rfl rfl (congrArg iV (show (m : Int) - a = ((m - a : Nat) : Int) by omega)) (congrArg iV (show (b : Int) - m = ((b - m : Nat) : Int) by omega)), by omega, by omega, by omega, by omega, rfl, h, .refl, by rw [show m - (m - a) = a by omega, show m + (b - m) = b by omega], Mod.refl⟩ ?_
  rintro q _ w1 ⟨ρ, i, j, f1, rfl, hi0, hj0, hi, hj, rfl, hA, hP, hR, hM⟩
  refine W_seq ?_
  refine W_sr rfl (s_mv rfl (s_mv rfl (s_neq rfl rfl (s_nil ?_))))
  refine W_if rfl (fun hd => W_skip ?_) (fun hd => W_exit ?_)
  · have hd : i ≠ j := by have := of_decide_eq_true hd; omega
    refine W_block ?_
    refine W_sr rfl (s_mv rfl (s_mv rfl (s_gtr rfl rfl (s_nil ?_))))
    refine W_if rfl (fun he => ?_) (fun he => ?_)
    · have he := of_decide_eq_true he
      have hji : j < i := by omega
      have call := slices_swapRange_LigRule_c (c := c) (cv := cv) (a := m - i) (b := m) (k := j) hA (by omega) (by omega) hn
      rw [show ((m - i : Nat) : Int) = (m : Int) - i by omega] at call
      refine W_sr rfl (s_mv rfl (s_mv rfl (s_mv rfl (s_sub rfl rfl (by omega) (s_mv rfl (s_mv rfl (s_mv rfl (s_callx rfl rfl call fun w2 h2 => (s_nil ?_)))))))))
      refine W_reg rfl (s_mv rfl (s_mv rfl (s_sub rfl rfl (by omega) (s_as rfl (s_nil ?_)))))
      refine ⟨i - j + j, by omega, _, i - j, j, _, u5 rfl rfl rfl (congrArg iV (show (i : Int) - j = ((i - j : Nat) : Int) by omega)) rfl, by omega, hj0, by omega, hj, rfl, h2.1, hP.trans (swR_pm j (by omega) (by omega) (by omega)), ?_, hM.trans h2.2⟩
      rw [rot_gt i j m hj0 hji (by omega), hR]
    · have he := of_decide_eq_false he
      have hji : i < j := by omega
      have call := slices_swapRange_LigRule_c (c := c) (cv := cv) (a := m - i) (b := m + j - i) (k := i) hA (by omega) (by omega) hn
      rw [show ((m - i : Nat) : Int) = (m : Int) - i by omega, show ((m + j - i : Nat) : Int) = (m : Int) + j - i by omega] at call
      refine W_sr rfl (s_mv rfl (s_mv rfl (s_mv rfl (s_sub rfl rfl (by omega) (s_mv rfl (s_mv rfl (s_add rfl rfl (by omega) (s_mv rfl (s_sub rfl rfl (by omega) (s_mv rfl (s_mv rfl (s_callx rfl rfl call fun w2 h2 => (s_nil ?_)))))))))))))
      refine W_reg rfl (s_mv rfl (s_mv rfl (s_sub rfl rfl (by omega) (s_as rfl (s_nil ?_)))))
      refine ⟨i + (j - i), by omega, _, i, j - i, _, u5 rfl rfl rfl rfl (congrArg iV (show (j : Int) - i = ((j - i : Nat) : Int) by omega)), hi0, by omega, hi, by omega, rfl, h2.1, hP.trans (swR_pm i (by omega) (by omega) (by omega)), ?_, hM.trans h2.2⟩
      rw [rot_lt i j m hi0 hji (by omega), hR]
  · have hd : i = j := by have := of_decide_eq_false hd; omega
    subst hd
    have call := slices_swapRange_LigRule_c (c := c) (cv := cv) (a := m - i) (b := m) (k := i) hA (by omega) (by omega) hn
    rw [show ((m - i : Nat) : Int) = (m : Int) - i by omega] at call
    refine W_reg rfl (s_mv rfl (s_mv rfl (s_mv rfl (s_sub rfl rfl (by omega) (s_mv rfl (s_mv rfl (s_mv rfl (s_callx rfl rfl call fun w2 h2 => (s_nil ?_)))))))))
    have e := rot_eq (f := f1) i m (by omega)
    refine ⟨_, rfl, rfl, ?_, ?_, hM.trans h2.2⟩
    · rw [← hR, ← e]; exact h2.1
    · rw [← hR, ← e]; exact hP.trans (swR_pm i (by omega) (by omega) (by omega))
theorem slices_insertionSort_LigRule_c {f : Nat → Ru} {a b : Nat} {gc : FuncId} {cmp : Ru → Ru → Int} (ho : Ordr cmp) (hg : ∀ x y w, Ret Go.Proofs.Tryz.prog gc #[ruV x, ruV y] w fun v w' => v = iV (cmp x y) ∧ Ext w w')
    (h : ArrR ruC w g n f) (hab : a ≤ b) (hb : b ≤ n) (hn : n ≤ 1000000) :
    Ret Go.Proofs.Tryz.prog 112 #[.slice (some ⟨g, 0, none⟩) n c, iV a, iV b, .func (.func gc) #[] #[]] w fun v w' => v = .tuple #[] ∧ ∃ f', ArrR ruC w' g n f' ∧ Pm a b f f' ∧ Srt cmp f' a b ∧ Mod (fun k => k = g) w w' := by
  refine enter Go.Proofs.Tryz.func112 rfl rfl rfl ?_
  refine W_sr rfl (s_mv rfl (s_add rfl rfl (by omega) (s_as rfl (s_nil ?_))))
  refine W_block ?_
  refine W_loop (fun q ρ w' => ∃ ρ' i f', ρ = upd (upd (upd (upd (upd ρ' 0 (.slice (some ⟨g, 0, none⟩) n c)) 1 (iV a)) 2 (iV b)) 3 (.func (.func gc) #[] #[])) 8 (iV (i : Nat)) ∧ a < i ∧ (a < b → i ≤ b) ∧ q = b - i ∧ ArrR ruC w' g n f' ∧ Pm a b f f' ∧ Srt cmp f' a i ∧ Mod (fun k => k = g) w w') (b - (a + 1))
    ⟨_, a + 1, f, u5 rfl rfl rfl rfl rfl, by omega, by omega, rfl, h, .refl, fun i j h1 h2 h3 => by omega, Mod.refl⟩ ?_
  rintro q _ w1 ⟨ρ, i, f1, rfl, hai, hib, rfl, hA, hP, hS, hM⟩
  refine W_seq ?_
  refine W_sr rfl (s_mv rfl (s_mv rfl (s_lss rfl rfl (s_nil ?_))))
  refine W_if rfl (fun hd => W_skip ?_) (fun hd => W_exit ?_)
  · have hd := of_decide_eq_true hd
    have hib : i < b := by omega
    refine W_seq (W_block ?_)
    refine W_sr rfl (s_mv rfl (s_as rfl (s_nil ?_)))
    refine W_block ?_
    refine W_loop (fun q ρ w' => ∃ ρ' j f', ρ = upd (upd (upd (upd (upd (upd ρ' 0 (.slice (some ⟨g, 0, none⟩) n c)) 1 (iV a)) 2 (iV b)) 3 (.func (.func gc) #[] #[])) 8 (iV (i : Nat))) 9 (iV (j : Nat)) ∧ j ≤ i ∧ a ≤ j ∧ q = 0 + j ∧ ArrR ruC w' g n f' ∧ Pm a b f f' ∧ (∀ p q, a ≤ p → p < q → q ≤ i → q ≠ j → 0 ≤ cmp (f' q) (f' p)) ∧ Mod (fun k => k = g) w w') (0 + i)
      ⟨_, i, f1, u6 rfl rfl rfl rfl rfl rfl, by omega, by omega, rfl, hA, hP, fun p q h1 h2 h3 h4 => hS p q h1 h2 (by omega), hM⟩ ?_
    clear hA hP hS hM
    rintro q _ w2 ⟨ρ, j, f2, rfl, hj, haj, rfl, ⟨cs, ty, hh, hsz, hc⟩, hP, hS, hM⟩
    refine W_seq ?_
    by_cases h0 : (a : Int) < j
    · have hj1 : j - 1 < n := by omega
      refine W_qr (Ext w2) orders rfl (by kernel_rfl) (Ext.drew0) (q_mv rfl (q_mv rfl (q_cmp (c := true) rfl rfl (decide_eq_true h0) (q_mv rfl (q_g1 rfl (q_mv rfl (q_g1 rfl (q_mv rfl (q_g1 rfl (q_mv rfl (q_g1 rfl (q_ia E rfl rfl rfl rfl (by omega) (q_g1 rfl (q_lda E rfl rfl (fun w' hE => cell_row hh hc (show j < n by omega) hE) rfl (q_g1 rfl (q_mv rfl (q_g1 rfl (q_mv rfl (q_g1 rfl (q_sub rfl rfl (by omega) (q_g1 rfl (q_ia E rfl rfl rfl (show (j : Int) - 1 = ((j - 1 : Nat) : Int) by omega) hj1 (q_g1 rfl (q_lda E rfl rfl (fun w' hE => cell_row hh hc hj1 hE) rfl (q_g1 rfl (q_call rfl rfl (hg (f2 j) (f2 (j - 1)) w).1 (fun w' hw' => (hg _ _ w').mono fun v w'' h => ⟨h.1, hw'.trans h.2⟩) (q_g1 rfl (q_lss rfl rfl (q_pk rfl (q_nil ?_))))))))))))))))))))))))))))))
      intro w3 hE3
      refine W_if rfl (fun he => W_skip ?_) (fun he => W_exit ?_)
      · have he := of_decide_eq_true he
        have hh3 := Ext.heap hE3 hh
        have set1 := arr_set ruC_len hsz hc (show j < n by omega) (f2 (j - 1))
        have set2 := arr_set ruC_len set1.1 set1.2 hj1 (f2 j)
        refine W_seq (W_block ?_)
        refine W_d (fun w' => w'.heap[g]? = some (.cells cs ty (0, 0))) [15, 16, 17] orders (D_pure 0 rfl rfl (by kernel_rfl) rfl (fun _ => r_mv rfl) (fun _ => hh3) (D_pure 1 rfl rfl (by kernel_rfl) rfl (fun _ => r_mv rfl) (fun _ => hh3) (D_pure 2 rfl rfl (by kernel_rfl) rfl (fun _ => r_mv rfl) (fun _ => hh3) (D_pure 3 rfl rfl (by kernel_rfl) rfl (fun _ => r_mv rfl) (fun _ => hh3) (D_pure 4 rfl rfl (by kernel_rfl) rfl (fun _ => r_sub rfl rfl (by omega)) (fun _ => hh3) (D_pure 5 rfl rfl (by kernel_rfl) rfl (fun _ => r_mv rfl) (fun _ => hh3) (D_pure 6 rfl rfl (by kernel_rfl) rfl (fun _ => r_mv rfl) (fun _ => hh3) (D_pure 7 rfl rfl (by kernel_rfl) rfl (fun _ => r_sub rfl rfl (by omega)) (fun _ => hh3) (D_pure 8 rfl rfl (by kernel_rfl) rfl (fun _ => r_ia E rfl rfl rfl (show (j : Int) - 1 = ((j - 1 : Nat) : Int) by omega) hj1) (fun _ => hh3) (D_take 9 rfl rfl (by kernel_rfl) rfl (fun _ hs => r_lda E rfl rfl (arr_row hs hc hj1) rfl) hh3 (D_pure 10 rfl rfl (by kernel_rfl) rfl (fun _ => r_mv rfl) (fun _ => hh3) (D_pure 11 rfl rfl (by kernel_rfl) rfl (fun _ => r_mv rfl) (fun _ => hh3) (D_pure 12 rfl rfl (by kernel_rfl) rfl (fun _ => r_ia E rfl rfl rfl rfl (by omega)) (fun _ => hh3) (D_take 13 rfl rfl (by kernel_rfl) rfl (fun _ hs => r_lda E rfl rfl (arr_row hs hc (show j < n by omega)) rfl) hh3 (D_pure 14 rfl rfl (by kernel_rfl) rfl (fun _ => r_ia E rfl rfl rfl rfl (by omega)) (fun _ => hh3) (D_oneM 15 rfl (by kernel_rfl) rfl (by kernel_rfl) (s_st E (vs := ruC (f2 (j - 1))) rfl rfl (ad0 g _) rfl hh3 rfl rfl rfl (by rw [ruC_len]; omega) (s_nil (D_oneM 16 rfl (by kernel_rfl) rfl (by kernel_rfl) (s_ia E rfl rfl rfl (show (j : Int) - 1 = ((j - 1 : Nat) : Int) by omega) hj1 (s_nil (D_oneM 17 rfl (by kernel_rfl) rfl (by kernel_rfl) (s_st E (vs := ruC (f2 j)) rfl rfl (ad0 g _) rfl (setRow_heap _ _ _ _ ty (0, 0) hh3) rfl rfl rfl (by have := set1.1; rw [ruC_len]; omega) (s_nil (D_done (by kernel_rfl) ?_)))))))))))))))))))))))))
        refine W_reg rfl (s_mv rfl (s_sub rfl rfl (by omega) (s_as rfl (s_nil ?_))))
        refine ⟨0 + (j - 1), by omega, _, j - 1, swF f2 j (j - 1), u6 rfl rfl rfl rfl rfl (congrArg iV (show (j : Int) - 1 = ((j - 1 : Nat) : Int) by omega)), by omega, by omega, rfl, ⟨_, ty, setRow_heap _ _ _ _ ty (0, 0) (setRow_heap _ _ _ _ ty (0, 0) hh3), set2.1, ?_⟩, .sw hP (by omega) (by omega), ins_sw ho (by omega) hj hS he, (hM.trans (Mod.of_ext hE3)).trans ((Mod.of_ext Ext.drew0).trans mod_two)⟩
        rw [← sw_upd]
        exact set2.2
      · have he := of_decide_eq_false he
        refine W_reg rfl (s_mv rfl (s_add rfl rfl (by omega) (s_as rfl (s_nil ?_))))
        exact ⟨b - (i + 1), by omega, _, i + 1, f2, u5 rfl rfl rfl rfl rfl, by omega, by omega, rfl, ⟨cs, ty, Ext.heap hE3 hh, hsz, hc⟩, hP, ins_done ho hj hS (.inr (by omega)), hM.trans (Mod.of_ext hE3)⟩
    · refine W_qr (Ext w2) orders rfl (by kernel_rfl) (Ext.drew0) (q_mv rfl (q_mv rfl (q_cmp (c := false) rfl rfl (decide_eq_false h0) (q_mv rfl (q_g0 rfl (q_g0 rfl (q_g0 rfl (q_g0 rfl (q_g0 rfl (q_g0 rfl (q_g0 rfl (q_g0 rfl (q_g0 rfl (q_g0 rfl (q_g0 rfl (q_g0 rfl (q_pk rfl (q_nil ?_))))))))))))))))))
      intro w3 hE3
      refine W_if rfl (fun he => by cases he) (fun he => W_exit ?_)
      refine W_reg rfl (s_mv rfl (s_add rfl rfl (by omega) (s_as rfl (s_nil ?_))))
      exact ⟨b - (i + 1), by omega, _, i + 1, f2, u5 rfl rfl rfl rfl rfl, by omega, by omega, rfl, ⟨cs, ty, Ext.heap hE3 hh, hsz, hc⟩, hP, ins_done ho hj hS (.inl (by omega)), hM.trans (Mod.of_ext hE3)⟩
  · have hd := of_decide_eq_false hd
    refine ⟨_, rfl, rfl, f1, hA, hP, fun p q h1 h2 h3 => hS p q h1 h2 (by omega), hM⟩
end
end Go.Proofs.YthfnijlgmjkedaaGreat
namespace Go.Proofs.YthfnijlgmjkedaaGreat
set_option maxRecDepth 100000
set_option linter.unusedVariables false
set_option linter.unusedSimpArgs false
open Go Go.Fx Go.Proofs.YthfnijlgmjkedaaGreat.Tab
section
variable {α : Type} {cmp : α → α → Int} {f : Nat → α} {a m b i j k s e mid : Nat}
/-- the first one goes up to place k -/
def upF (f : Nat → α) (a k : Nat) : Nat → α := fun t => if a ≤ t ∧ t < k then f (t + 1) else if t = k then f a else f t
theorem upF_zero : upF f a a = f := by
  funext t; unfold upF
  rw [if_neg (by omega)]
  split
  · rename_i h; rw [h]
  · rfl
theorem upF_succ (h : a ≤ k) : upF f a (k + 1) = swF (upF f a k) k (k + 1) := by
  funext t; simp only [upF, swF]
  (repeat' split) <;> first | rfl | (exfalso; omega) | (congr 1; omega) | (exfalso; simp_all; done)
theorem upF_pm {b : Nat} (h : a ≤ k) (hk : k < b) : Pm a b f (upF f a k) := by
  obtain ⟨d, rfl⟩ := Nat.exists_eq_add_of_le h
  clear h
  induction d with
  | zero => rw [Nat.add_zero, upF_zero]; exact .refl
  | succ d ih => rw [← Nat.add_assoc, upF_succ (by omega)]; exact .sw (ih (by omega)) (by omega) (by omega)
/-- the last one goes down to place k -/
def dnF (f : Nat → α) (m k : Nat) : Nat → α := fun t => if k < t ∧ t ≤ m then f (t - 1) else if t = k then f m else f t
theorem dnF_zero : dnF f m m = f := by
  funext t; unfold dnF
  rw [if_neg (by omega)]
  split
  · rename_i h; rw [h]
  · rfl
theorem dnF_succ (h : k < m) : dnF f m k = swF (dnF f m (k + 1)) (k + 1) k := by
  funext t; simp only [dnF, swF]
  (repeat' split) <;> first | rfl | (exfalso; omega) | (congr 1; omega) | (exfalso; simp_all; done)
theorem dnF_pm {lo : Nat} (h : k ≤ m) (hk : lo ≤ k) : Pm lo (m + 1) f (dnF f m k) := by
  obtain ⟨d, hd⟩ := Nat.exists_eq_add_of_le h
  induction d generalizing k with
  | zero => have : k = m := by omega
            subst this; rw [dnF_zero]; exact .refl
  | succ d ih => rw [dnF_succ (by omega)]; exact .sw (ih (k := k + 1) (by omega) (by omega) (by omega)) (by omega) (by omega)
theorem Srt.sub (h : Srt cmp f a b) {c d : Nat} (hc : a ≤ c) (hd : d ≤ b) : Srt cmp f c d := fun p q h1 h2 h3 => h p q (by omega) h2 (by omega)
theorem up_srt (ho : Ordr cmp) (hs : Srt cmp f (a + 1) b) (hi : a + 1 ≤ i) (hib : i ≤ b) (h1 : ∀ p, a + 1 ≤ p → p < i → cmp (f p) (f a) < 0) (h2 : ∀ p, i ≤ p → p < b → 0 ≤ cmp (f p) (f a)) : Srt cmp (upF f a (i - 1)) a b := by
  intro p q hp hpq hq
  unfold upF
  by_cases c1 : a ≤ q ∧ q < i - 1
  · rw [if_pos c1, if_pos (by omega)]; exact hs _ _ (by omega) (by omega) (by omega)
  · rw [if_neg c1]
    by_cases c2 : q = i - 1
    · rw [if_pos c2, if_pos (by omega)]; exact ho.asym _ _ (h1 _ (by omega) (by omega))
    · rw [if_neg c2]
      by_cases c3 : a ≤ p ∧ p < i - 1
      · rw [if_pos c3]; exact hs _ _ (by omega) (by omega) (by omega)
      · rw [if_neg c3]
        by_cases c4 : p = i - 1
        · rw [if_pos c4]; exact h2 _ (by omega) (by omega)
        · rw [if_neg c4]; exact hs _ _ (by omega) (by omega) (by omega)
theorem dn_srt (ho : Ordr cmp) (hs : Srt cmp f a m) (hi : a ≤ i) (hib : i ≤ m) (h1 : ∀ p, a ≤ p → p < i → 0 ≤ cmp (f m) (f p)) (h2 : ∀ p, i ≤ p → p < m → cmp (f m) (f p) < 0) : Srt cmp (dnF f m i) a (m + 1) := by
  intro p q hp hpq hq
  unfold dnF
  by_cases c1 : i < q ∧ q ≤ m
  · rw [if_pos c1]
    by_cases c2 : i < p ∧ p ≤ m
    · rw [if_pos c2]; exact hs _ _ (by omega) (by omega) (by omega)
    · rw [if_neg c2]
      by_cases c3 : p = i
      · rw [if_pos c3]; exact ho.asym _ _ (h2 _ (by omega) (by omega))
      · rw [if_neg c3]; exact hs _ _ (by omega) (by omega) (by omega)
  · rw [if_neg c1, if_neg (show ¬ (i < p ∧ p ≤ m) by omega)]
    rw [if_neg (show ¬ p = i by omega)]
    by_cases c2 : q = i
    · rw [if_pos c2]; exact h1 _ (by omega) (by omega)
    · rw [if_neg c2]; exact hs _ _ (by omega) (by omega) (by omega)
theorem rot_none (h : s = m ∨ e = m) (hs : s ≤ m) (he : m ≤ e) : rotF f s m e = f := by
  funext t; unfold rotF
  rcases h with h | h
  · subst h
    split
    · congr 1; omega
    · rw [if_neg (by omega)]
  · subst h
    rw [if_neg (by omega)]
    split
    · congr 1; omega
    · rfl
/-- the halves of a symmetric merge -/
structure Halves (cmp : α → α → Int) (f : Nat → α) (a s mid e b : Nat) : Prop where
  l1 : Srt cmp f a s
  l2 : Srt cmp f s mid
  r1 : Srt cmp f mid e
  r2 : Srt cmp f e b
  cross : ∀ i j, a ≤ i → i < mid → mid ≤ j → j < b → 0 ≤ cmp (f j) (f i)
theorem sym_halves (ho : Ordr cmp) (hL : Srt cmp f a m) (hR : Srt cmp f m b) (has : a ≤ s) (hsm : s ≤ m) (hme : m ≤ e) (heb : e ≤ b) (hsum : s + e = mid + m) (hsmid : s ≤ mid)
    (hA : a < s → e < b → 0 ≤ cmp (f e) (f (s - 1))) (hB : m < e → s < m → cmp (f (e - 1)) (f s) < 0) : Halves cmp (rotF f s m e) a s mid e b := by
  have lo : ∀ t, t < s → rotF f s m e t = f t := fun t h => by unfold rotF; rw [if_neg (by omega), if_neg (by omega)]
  have li : ∀ t, s ≤ t → t < mid → rotF f s m e t = f (t - s + m) := fun t h h' => by unfold rotF; rw [if_pos (by omega)]
  have ri : ∀ t, mid ≤ t → t < e → rotF f s m e t = f (t - (e - m)) := fun t h h' => by unfold rotF; rw [if_neg (by omega), if_pos (by omega)]
  have hi : ∀ t, e ≤ t → rotF f s m e t = f t := fun t h => by unfold rotF; rw [if_neg (by omega), if_neg (by omega)]
  refine ⟨fun p q h1 h2 h3 => ?_, fun p q h1 h2 h3 => ?_, fun p q h1 h2 h3 => ?_, fun p q h1 h2 h3 => ?_, fun p q h1 h2 h3 h4 => ?_⟩
  · rw [lo p (by omega), lo q h3]; exact hL _ _ h1 h2 (by omega)
  · rw [li p h1 (by omega), li q (by omega) h3]; exact hR _ _ (by omega) (by omega) (by omega)
  · rw [ri p h1 (by omega), ri q (by omega) h3]; exact hL _ _ (by omega) (by omega) (by omega)
  · rw [hi p h1, hi q (by omega)]; exact hR _ _ (by omega) h2 h3
  · have le_of : ∀ {u v}, Srt cmp f u v → ∀ x y, u ≤ x → x ≤ y → y < v → x = y ∨ 0 ≤ cmp (f y) (f x) := fun hs x y g1 g2 g3 => by
      by_cases h : x = y
      · exact .inl h
      · exact .inr (hs x y g1 (by omega) g3)
    by_cases c1 : p < s
    · rw [lo p c1]
      by_cases c2 : q < e
      · rw [ri q h3 c2]; exact hL _ _ h1 (by omega) (by omega)
      · rw [hi q (by omega)]
        have k1 := hA (by omega) (by omega)
        have k2 : 0 ≤ cmp (f q) (f (s - 1)) := by
          rcases le_of hR e q hme (by omega) h4 with h | h
          · rw [← h]; exact k1
          · exact ho.tr _ _ _ k1 h
        rcases le_of hL p (s - 1) h1 (by omega) (by omega) with h | h
        · rw [h]; exact k2
        · exact ho.tr _ _ _ h k2
    · rw [li p (by omega) h2]
      by_cases c2 : q < e
      · rw [ri q h3 c2]
        have k1 := ho.asym _ _ (hB (by omega) (by omega))
        have k2 : 0 ≤ cmp (f (q - (e - m))) (f (e - 1)) := by
          rcases le_of hL s (q - (e - m)) has (by omega) (by omega) with h | h
          · rw [← h]; exact k1
          · exact ho.tr _ _ _ k1 h
        rcases le_of hR (p - s + m) (e - 1) (by omega) (by omega) (by omega) with h | h
        · rw [h]; exact k2
        · exact ho.tr _ _ _ h k2
      · rw [hi q (by omega)]; exact hR _ _ (by omega) (by omega) h4
theorem srt_join {f4 : Nat → α} (h1 : Srt cmp f4 a mid) (h2 : Srt cmp f4 mid b) (h : ∀ i j, a ≤ i → i < mid → mid ≤ j → j < b → 0 ≤ cmp (f4 j) (f4 i)) : Srt cmp f4 a b := by
  intro p q h3 h4 h5
  by_cases c1 : q < mid
  · exact h1 _ _ h3 h4 c1
  · by_cases c2 : p < mid
    · exact h _ _ h3 c2 (by omega) h5
    · exact h2 _ _ (by omega) h4 h5
theorem cross_pm {f3 f4 : Nat → α} (h1 : Pm a mid f f3) (h2 : Pm mid b f3 f4) (h : ∀ i j, a ≤ i → i < mid → mid ≤ j → j < b → 0 ≤ cmp (f j) (f i)) : ∀ i j, a ≤ i → i < mid → mid ≤ j → j < b → 0 ≤ cmp (f4 j) (f4 i) := by
  have g3 : ∀ i j, a ≤ i → i < mid → mid ≤ j → j < b → 0 ≤ cmp (f3 j) (f3 i) := by
    intro i j k1 k2 k3 k4
    rw [h1.out (.inr k3)]
    exact h1.all (Q := fun x => 0 ≤ cmp (f j) x) (fun i k1 k2 => h i j k1 k2 k3 k4) i k1 k2
  intro i j k1 k2 k3 k4
  rw [h2.out (.inl k2)]
  exact h2.all (Q := fun x => 0 ≤ cmp x (f3 i)) (fun j k3 k4 => g3 i j k1 k2 k3 k4) j k3 k4
end
end Go.Proofs.YthfnijlgmjkedaaGreat
