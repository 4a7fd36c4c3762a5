/- Contracts of functions that the laws of this seat call: what each answers, for every input that its hypotheses name. -/
import Derived.Shelf.Small.Bits
import Derived.Shelf.Small.Wraps
import Derived.Shelf.Strconv.Itoa0
import Derived.Shelf.Sort.Plain
import Derived.Ground.Names2Prog
import Derived.Shelf.Slices.CompactI
import Derived.Shelf.Slices.SearchI
import Derived.Shelf.Slices.Cells
import Derived.Shelf.Slices.In.SortNone
import Derived.Shelf.Slices.Empties
import Derived.Test.YthfnijlgmjkedaaGreatProg
import Derived.Test.YthfnijlgmjkedaaGreatG2
import Derived.Test.YthfnijlgmjkedaaGreatG1
import Derived.Sort.OwnSortedInts
/-
  DERIVED: THE SHELF's CONTRACTS AT THIS DUMP, IN PLAIN WORDS (tools/lay-plain.mjs out of 'TryzShelf.lean', which tools/lay-shelf.mjs wrote): THE SAME DECLARATIONS UNDER THE SAME NAMES: 'import', 'namespace', 'open', 'def', 'theorem' AND NOTHING ELSE: no command of the shelf's: FOR A HAND-IN. Each laying: the table of numbers ('.._ren') and one theorem, a field a fact of the dump's own or the kernel's comparison; each contract: ONE APPLICATION.
-/
namespace Go.Proofs
open Go.Shelf
def Tryz.lays128_ren : Go.Shelf.Ren := ⟨fun | 128 => 122 | n => n, fun | 51 => 127 | 3 => 3 | 4 => 4 | 46 => 112 | 5 => 5 | 9 => 9 | n => n, fun | n => n⟩
theorem Tryz.lays128 : Go.Proofs.Lays.n128 Tryz.prog Tryz.lays128_ren := {
  mixed := by kernel_rfl
  f128 := Tryz.func122.trans (congrArg some (by kernel_rfl))
  t3 := Tryz.underlying3
  a3 := Tryz.isAgg3
  z3 := Tryz.sizeOf3
  v3 := Tryz.zeroValue3
  t4 := Tryz.underlying4
  a4 := Tryz.isAgg4
  z4 := Tryz.sizeOf4
  v4 := Tryz.zeroValue4
  t5 := Tryz.underlying5
  a5 := Tryz.isAgg5
  z5 := Tryz.sizeOf5
  v5 := Tryz.zeroValue5
  t9 := Tryz.underlying9
  a9 := Tryz.isAgg9
  z9 := Tryz.sizeOf9
  v9 := Tryz.zeroValue9
  t46 := Tryz.underlying112
  a46 := Tryz.isAgg112
  z46 := Tryz.sizeOf112
  v46 := Tryz.zeroValue112
  t51 := Tryz.underlying127
  a51 := Tryz.isAgg127
  z51 := Tryz.sizeOf127
  v51 := Tryz.zeroValue127 }
/-- bits.Len32: "Len32 returns the minimum number of bits required to represent x; the result is 0 for x == 0.": IT RETURNS 'Lib.bitLen x'; the world is as it was. ('h0', 'h1': x is a uint32.) (LAID: no walk: one application.) -/
theorem Tryz.bits_Len32 (x : Int) (w : World) (h0 : 0 ≤ x) (h1 : x ≤ 4294967295) :
    Calls Tryz.prog 122 #[.int .u32 x] w fun e w' => e = .returned (.int .i64 (Lib.bitLen x.toNat)) ∧ w' = w := Any.bits_Len32 Tryz.lays128 x w h0 h1
def Tryz.lays125_ren : Go.Shelf.Ren := ⟨fun | 125 => 109 | 128 => 122 | 129 => 123 | n => n, fun | 46 => 112 | 3 => 3 | 51 => 127 | 53 => 141 | 4 => 4 | 5 => 5 | 9 => 9 | n => n, fun | n => n⟩
theorem Tryz.lays125 : Go.Proofs.Lays.n125 Tryz.prog Tryz.lays125_ren := {
  mixed := by kernel_rfl
  f125 := Tryz.func109.trans (congrArg some (by kernel_rfl))
  f128 := Tryz.func122.trans (congrArg some (by kernel_rfl))
  f129 := Tryz.func123.trans (congrArg some (by kernel_rfl))
  t3 := Tryz.underlying3
  a3 := Tryz.isAgg3
  z3 := Tryz.sizeOf3
  v3 := Tryz.zeroValue3
  t4 := Tryz.underlying4
  a4 := Tryz.isAgg4
  z4 := Tryz.sizeOf4
  v4 := Tryz.zeroValue4
  t5 := Tryz.underlying5
  a5 := Tryz.isAgg5
  z5 := Tryz.sizeOf5
  v5 := Tryz.zeroValue5
  t9 := Tryz.underlying9
  a9 := Tryz.isAgg9
  z9 := Tryz.sizeOf9
  v9 := Tryz.zeroValue9
  t46 := Tryz.underlying112
  a46 := Tryz.isAgg112
  z46 := Tryz.sizeOf112
  v46 := Tryz.zeroValue112
  t51 := Tryz.underlying127
  a51 := Tryz.isAgg127
  z51 := Tryz.sizeOf127
  v51 := Tryz.zeroValue127
  t53 := Tryz.underlying141
  a53 := Tryz.isAgg141
  z53 := Tryz.sizeOf141
  v53 := Tryz.zeroValue141 }
/-- bits.Len: "Len returns the minimum number of bits required to represent x; the result is 0 for x == 0.": IT RETURNS 'Lib.bitLen x'; the world is as it was. (A uint has 64 bits in the model.) ITS CALLEE bits.Len64 IS MET BY ITS OWN CONTRACT OFF THE SHELF (lay that first). (LAID: no walk: one application.) -/
theorem Tryz.bits_Len (x : Int) (w : World) (h0 : 0 ≤ x) (h1 : x ≤ 18446744073709551615) :
    Calls Tryz.prog 109 #[.int .u64 x] w fun e w' => e = .returned (.int .i64 (Lib.bitLen x.toNat)) ∧ w' = w := Any.bits_Len Tryz.lays125 x w h0 h1
def Tryz.lays215_ren : Go.Shelf.Ren := ⟨fun | 215 => 104 | n => n, fun | 3 => 3 | 4 => 4 | n => n, fun | n => n⟩
theorem Tryz.lays215 : Go.Proofs.Lays.n215 Tryz.prog Tryz.lays215_ren := {
  mixed := by kernel_rfl
  f215 := Tryz.func104.trans (congrArg some (by kernel_rfl))
  t3 := Tryz.underlying3
  a3 := Tryz.isAgg3
  z3 := Tryz.sizeOf3
  v3 := Tryz.zeroValue3
  t4 := Tryz.underlying4
  a4 := Tryz.isAgg4
  z4 := Tryz.sizeOf4
  v4 := Tryz.zeroValue4 }
open Go.RowKit in
/-- cmp.isNaN at int: 'x != x': false. (LAID: no walk: one application.) -/
theorem Tryz.cmp_isNaN_int (x : Int) (w : World) :
    Calls Tryz.prog 104 #[.int .i64 x] w fun e w' => e = .returned (.bool false) ∧ w' = w := Any.cmp_isNaN_int Tryz.lays215 x w
def Tryz.lays122_ren : Go.Shelf.Ren := ⟨fun | 122 => 86 | 215 => 104 | n => n, fun | 3 => 3 | 4 => 4 | n => n, fun | n => n⟩
theorem Tryz.lays122 : Go.Proofs.Lays.n122 Tryz.prog Tryz.lays122_ren := {
  mixed := by kernel_rfl
  f122 := Tryz.func86.trans (congrArg some (by kernel_rfl))
  f215 := Tryz.func104.trans (congrArg some (by kernel_rfl))
  t3 := Tryz.underlying3
  a3 := Tryz.isAgg3
  z3 := Tryz.sizeOf3
  v3 := Tryz.zeroValue3
  t4 := Tryz.underlying4
  a4 := Tryz.isAgg4
  z4 := Tryz.sizeOf4
  v4 := Tryz.zeroValue4 }
open Go.RowKit in
/-- cmp.Compare at int: "Compare returns -1 if x is less than y, 0 if x equals y, +1 if x is greater than y.": IT RETURNS 'Lib.compareInt x y'; the world is as it was. (LAID: no walk: one application.) -/
theorem Tryz.cmp_Compare_int (x y : Int) (w : World) :
    Calls Tryz.prog 86 #[.int .i64 x, .int .i64 y] w fun e w' => e = .returned (.int .i64 (Lib.compareInt x y)) ∧ w' = w := Any.cmp_Compare_int Tryz.lays122 x y w
def Tryz.lays129_ren : Go.Shelf.Ren := ⟨fun | 129 => 123 | n => n, fun | 53 => 141 | 3 => 3 | 4 => 4 | 46 => 112 | 5 => 5 | 9 => 9 | n => n, fun | n => n⟩
theorem Tryz.lays129 : Go.Proofs.Lays.n129 Tryz.prog Tryz.lays129_ren := {
  mixed := by kernel_rfl
  f129 := Tryz.func123.trans (congrArg some (by kernel_rfl))
  t3 := Tryz.underlying3
  a3 := Tryz.isAgg3
  z3 := Tryz.sizeOf3
  v3 := Tryz.zeroValue3
  t4 := Tryz.underlying4
  a4 := Tryz.isAgg4
  z4 := Tryz.sizeOf4
  v4 := Tryz.zeroValue4
  t5 := Tryz.underlying5
  a5 := Tryz.isAgg5
  z5 := Tryz.sizeOf5
  v5 := Tryz.zeroValue5
  t9 := Tryz.underlying9
  a9 := Tryz.isAgg9
  z9 := Tryz.sizeOf9
  v9 := Tryz.zeroValue9
  t46 := Tryz.underlying112
  a46 := Tryz.isAgg112
  z46 := Tryz.sizeOf112
  v46 := Tryz.zeroValue112
  t53 := Tryz.underlying141
  a53 := Tryz.isAgg141
  z53 := Tryz.sizeOf141
  v53 := Tryz.zeroValue141 }
/-- bits.Len64: "Len64 returns the minimum number of bits required to represent x; the result is 0 for x == 0.": IT RETURNS 'Lib.bitLen x'; the world is as it was. ('h0', 'h1': x is a uint64.) (LAID: no walk: one application.) -/
theorem Tryz.bits_Len64 (x : Int) (w : World) (h0 : 0 ≤ x) (h1 : x ≤ 18446744073709551615) :
    Calls Tryz.prog 123 #[.int .u64 x] w fun e w' => e = .returned (.int .i64 (Lib.bitLen x.toNat)) ∧ w' = w := Any.bits_Len64 Tryz.lays129 x w h0 h1
def Tryz.lays189_ren : Go.Shelf.Ren := ⟨fun | 189 => 98 | 125 => 109 | 257 => 108 | 128 => 122 | 129 => 123 | 294 => 114 | 295 => 115 | 296 => 116 | 297 => 117 | 298 => 118 | 299 => 119 | 216 => 100 | 300 => 120 | 301 => 121 | 328 => 126 | 329 => 127 | 330 => 128 | 331 => 129 | 332 => 130 | 215 => 104 | 343 => 133 | n => n, fun | 28 => 48 | 3 => 3 | 46 => 112 | 0 => 0 | 51 => 127 | 53 => 141 | 4 => 4 | 183 => 134 | 182 => 133 | 131 => 86 | 5 => 5 | 9 => 9 | 218 => 142 | 222 => 146 | 228 => 148 | 229 => 149 | n => n, fun | n => n⟩
theorem Tryz.lays189 : Go.Proofs.Lays.n189 Tryz.prog Tryz.lays189_ren := {
  mixed := by kernel_rfl
  f125 := Tryz.func109.trans (congrArg some (by kernel_rfl))
  f128 := Tryz.func122.trans (congrArg some (by kernel_rfl))
  f129 := Tryz.func123.trans (congrArg some (by kernel_rfl))
  f189 := Tryz.func98.trans (congrArg some (by kernel_rfl))
  f215 := Tryz.func104.trans (congrArg some (by kernel_rfl))
  f216 := Tryz.func100.trans (congrArg some (by kernel_rfl))
  f257 := Tryz.func108.trans (congrArg some (by kernel_rfl))
  f294 := Tryz.func114.trans (congrArg some (by kernel_rfl))
  f295 := Tryz.func115.trans (congrArg some (by kernel_rfl))
  f296 := Tryz.func116.trans (congrArg some (by kernel_rfl))
  f297 := Tryz.func117.trans (congrArg some (by kernel_rfl))
  f298 := Tryz.func118.trans (congrArg some (by kernel_rfl))
  f299 := Tryz.func119.trans (congrArg some (by kernel_rfl))
  f300 := Tryz.func120.trans (congrArg some (by kernel_rfl))
  f301 := Tryz.func121.trans (congrArg some (by kernel_rfl))
  f328 := Tryz.func126.trans (congrArg some (by kernel_rfl))
  f329 := Tryz.func127.trans (congrArg some (by kernel_rfl))
  f330 := Tryz.func128.trans (congrArg some (by kernel_rfl))
  f331 := Tryz.func129.trans (congrArg some (by kernel_rfl))
  f332 := Tryz.func130.trans (congrArg some (by kernel_rfl))
  f343 := Tryz.func133.trans (congrArg some (by kernel_rfl))
  t0 := Tryz.underlying0
  a0 := Tryz.isAgg0
  z0 := Tryz.sizeOf0
  v0 := Tryz.zeroValue0
  t3 := Tryz.underlying3
  a3 := Tryz.isAgg3
  z3 := Tryz.sizeOf3
  v3 := Tryz.zeroValue3
  t4 := Tryz.underlying4
  a4 := Tryz.isAgg4
  z4 := Tryz.sizeOf4
  v4 := Tryz.zeroValue4
  t5 := Tryz.underlying5
  a5 := Tryz.isAgg5
  z5 := Tryz.sizeOf5
  v5 := Tryz.zeroValue5
  t9 := Tryz.underlying9
  a9 := Tryz.isAgg9
  z9 := Tryz.sizeOf9
  v9 := Tryz.zeroValue9
  t28 := Tryz.underlying48
  a28 := Tryz.isAgg48
  z28 := Tryz.sizeOf48
  v28 := Tryz.zeroValue48
  t46 := Tryz.underlying112
  a46 := Tryz.isAgg112
  z46 := Tryz.sizeOf112
  v46 := Tryz.zeroValue112
  t51 := Tryz.underlying127
  a51 := Tryz.isAgg127
  z51 := Tryz.sizeOf127
  v51 := Tryz.zeroValue127
  t53 := Tryz.underlying141
  a53 := Tryz.isAgg141
  z53 := Tryz.sizeOf141
  v53 := Tryz.zeroValue141
  t131 := Tryz.underlying86
  a131 := Tryz.isAgg86
  z131 := Tryz.sizeOf86
  v131 := Tryz.zeroValue86
  t182 := Tryz.underlying133
  a182 := Tryz.isAgg133
  z182 := Tryz.sizeOf133
  v182 := Tryz.zeroValue133
  t183 := Tryz.underlying134
  a183 := Tryz.isAgg134
  z183 := Tryz.sizeOf134
  v183 := Tryz.zeroValue134
  t218 := Tryz.underlying142
  a218 := Tryz.isAgg142
  z218 := Tryz.sizeOf142
  v218 := Tryz.zeroValue142
  t222 := Tryz.underlying146
  a222 := Tryz.isAgg146
  z222 := Tryz.sizeOf146
  v222 := Tryz.zeroValue146
  t228 := Tryz.underlying148
  a228 := Tryz.isAgg148
  z228 := Tryz.sizeOf148
  v228 := Tryz.zeroValue148
  t229 := Tryz.underlying149
  a229 := Tryz.isAgg149
  z229 := Tryz.sizeOf149
  v229 := Tryz.zeroValue149 }
open Go.Sort Go.RowKit in
theorem Tryz.slices_Sort_int (blk off cap : Nat) (zs : List Int) (w : World) (hH : Holds (Value.int .i64) w blk off zs.toArray) (hblk : blk < w.heap.size) (hsz : zs.length < 4611686018427387904) :
    Calls Tryz.prog 98 #[.slice (some ⟨blk, off, none⟩) zs.length cap] w fun e w' =>
      e = .returned (.tuple #[]) ∧ ∃ n os, w' = grow (putRow (Value.int .i64) (Sort.ahead w n) blk off (zs.mergeSort fun x y => decide (x ≤ y)).toArray) os := Any.slices_Sort_int Tryz.lays189 blk off cap zs w hH hblk hsz
def Tryz.laysNm220_ren : Go.Shelf.Ren := ⟨fun | 20 => 99 | n => n, fun | 22 => 48 | 3 => 3 | 4 => 4 | 0 => 0 | n => n, fun | n => n⟩
theorem Tryz.laysNm220 : Go.Proofs.Lays2.n20 Tryz.prog Tryz.laysNm220_ren := {
  mixed := by kernel_rfl
  f20 := Tryz.func99.trans (congrArg some (by kernel_rfl))
  t0 := Tryz.underlying0
  a0 := Tryz.isAgg0
  z0 := Tryz.sizeOf0
  v0 := Tryz.zeroValue0
  t3 := Tryz.underlying3
  a3 := Tryz.isAgg3
  z3 := Tryz.sizeOf3
  v3 := Tryz.zeroValue3
  t4 := Tryz.underlying4
  a4 := Tryz.isAgg4
  z4 := Tryz.sizeOf4
  v4 := Tryz.zeroValue4
  t22 := Tryz.underlying48
  a22 := Tryz.isAgg48
  z22 := Tryz.sizeOf48
  v22 := Tryz.zeroValue48
  i3 := by kernel_rfl }
open Go.RowKit Go.Lib Go.Sort in
/-- slices.Compact at []int, over an array: the library's two loops are walked. (LAID: no walk: one application.) -/
theorem Tryz.slices_Compact_int_arr (blk off cap : Nat) (d : Array Int) (w : World) (hH : Holds encI w blk off d) (hsz : d.size ≤ 9223372036854775807) (hcap : d.size ≤ cap) :
    Calls Tryz.prog 99 #[.slice (some ⟨blk, off, none⟩) d.size cap] w fun e w' => e = .returned (.slice (some ⟨blk, off, none⟩) (compactUpTo d d.size).length cap) ∧ ∃ q, w' = putRow encI (Sort.ahead w q) blk off (compactUpTo d d.size ++ List.replicate (d.size - (compactUpTo d d.size).length) 0).toArray := Any.slices_Compact_int_arr Tryz.laysNm220 blk off cap d w hH hsz hcap
open Go.RowKit Go.Lib Go.Sort in
/-- slices.Compact at []int: "Compact replaces consecutive runs of equal elements with a single copy. This is like the uniq command found on Unix. Compact modifies the contents of the slice s and returns the modified slice, which may have a smaller length. Compact zeroes the elements between the new length and the original length. The result preserves the nilness of s.": IT RETURNS THE SLICE CUT TO 'Lib.compact zs'; ITS CELLS HOLD 'Lib.compact zs', THEN ZERO VALUES up to the old length; all else is as it was, but for the count of draws. IN THE WORDS OF slices.Sort's CONTRACT ('Holds', 'putRow'): so the everyday 'slices.Sort(xs); xs = slices.Compact(xs)' goes from the one contract to the other. It asks 'zs.length ≤ cap' (every slice's: the reslicing 's[:k]' looks at it). Length 0, nil: '.._empty'. (LAID: no walk: one application.) -/
theorem Tryz.slices_Compact_int (blk off cap : Nat) (zs : List Int) (w : World) (hH : Holds (Value.int .i64) w blk off zs.toArray) (hsz : zs.length ≤ 9223372036854775807) (hcap : zs.length ≤ cap) :
    Calls Tryz.prog 99 #[.slice (some ⟨blk, off, none⟩) zs.length cap] w fun e w' => e = .returned (.slice (some ⟨blk, off, none⟩) (Lib.compact zs).length cap) ∧ ∃ q, w' = putRow (Value.int .i64) (Sort.ahead w q) blk off (Lib.compact zs ++ List.replicate (zs.length - (Lib.compact zs).length) 0).toArray := Any.slices_Compact_int Tryz.laysNm220 blk off cap zs w hH hsz hcap
open Go.RowKit Go.Lib Go.Sort in
/-- The same at a slice of length 0, a nil one too: it comes back as it is. (LAID: no walk: one application.) -/
theorem Tryz.slices_Compact_int_empty (a : Option Addr) (cap : Nat) (w : World) :
    Calls Tryz.prog 99 #[.slice a 0 cap] w fun e w' => e = .returned (.slice a 0 cap) ∧ w' = w := Any.slices_Compact_int_empty Tryz.laysNm220 a cap w
def Tryz.laysNm237_ren : Go.Shelf.Ren := ⟨fun | 37 => 104 | n => n, fun | 3 => 3 | 4 => 4 | n => n, fun | n => n⟩
theorem Tryz.laysNm237 : Go.Proofs.Lays2.n37 Tryz.prog Tryz.laysNm237_ren := {
  mixed := by kernel_rfl
  f37 := Tryz.func104.trans (congrArg some (by kernel_rfl))
  t3 := Tryz.underlying3
  a3 := Tryz.isAgg3
  z3 := Tryz.sizeOf3
  v3 := Tryz.zeroValue3
  t4 := Tryz.underlying4
  a4 := Tryz.isAgg4
  z4 := Tryz.sizeOf4
  v4 := Tryz.zeroValue4 }
open Go.RowKit Go.Lib in
/-- cmp.isNaN[int]: 'x != x': false. (LAID: no walk: one application.) -/
theorem Tryz.cmp_isNaN_int2 (x : Int) (w : World) :
    Calls Tryz.prog 104 #[.int .i64 x] w fun e w' => e = .returned (.bool false) ∧ w' = w := Any.cmp_isNaN_int2 Tryz.laysNm237 x w
def Tryz.laysNm232_ren : Go.Shelf.Ren := ⟨fun | 32 => 101 | n => n, fun | 3 => 3 | 4 => 4 | n => n, fun | n => n⟩
theorem Tryz.laysNm232 : Go.Proofs.Lays2.n32 Tryz.prog Tryz.laysNm232_ren := {
  mixed := by kernel_rfl
  f32 := Tryz.func101.trans (congrArg some (by kernel_rfl))
  t3 := Tryz.underlying3
  a3 := Tryz.isAgg3
  z3 := Tryz.sizeOf3
  v3 := Tryz.zeroValue3
  t4 := Tryz.underlying4
  a4 := Tryz.isAgg4
  z4 := Tryz.sizeOf4
  v4 := Tryz.zeroValue4 }
open Go.RowKit Go.Lib in
/-- slices.isNaN[int]: 'x != x': false. (LAID: no walk: one application.) -/
theorem Tryz.slices_isNaN_int2 (x : Int) (w : World) :
    Calls Tryz.prog 101 #[.int .i64 x] w fun e w' => e = .returned (.bool false) ∧ w' = w := Any.slices_isNaN_int2 Tryz.laysNm232 x w
def Tryz.laysNm231_ren : Go.Shelf.Ren := ⟨fun | 31 => 100 | 37 => 104 | n => n, fun | 3 => 3 | 4 => 4 | n => n, fun | n => n⟩
theorem Tryz.laysNm231 : Go.Proofs.Lays2.n31 Tryz.prog Tryz.laysNm231_ren := {
  mixed := by kernel_rfl
  f31 := Tryz.func100.trans (congrArg some (by kernel_rfl))
  f37 := Tryz.func104.trans (congrArg some (by kernel_rfl))
  t3 := Tryz.underlying3
  a3 := Tryz.isAgg3
  z3 := Tryz.sizeOf3
  v3 := Tryz.zeroValue3
  t4 := Tryz.underlying4
  a4 := Tryz.isAgg4
  z4 := Tryz.sizeOf4
  v4 := Tryz.zeroValue4 }
open Go.RowKit Go.Lib in
/-- cmp.Less[int]: "Less reports whether x is less than y.": 'x < y'; the world is as it was. (LAID: no walk: one application.) -/
theorem Tryz.cmp_Less_int2 (x y : Int) (w : World) :
    Calls Tryz.prog 100 #[.int .i64 x, .int .i64 y] w fun e w' => e = .returned (.bool (decide (x < y))) ∧ w' = w := Any.cmp_Less_int2 Tryz.laysNm231 x y w
def Tryz.laysNm225_ren : Go.Shelf.Ren := ⟨fun | 25 => 76 | 31 => 100 | 32 => 101 | 37 => 104 | n => n, fun | 22 => 48 | 3 => 3 | 4 => 4 | 40 => 112 | 0 => 0 | n => n, fun | n => n⟩
theorem Tryz.laysNm225 : Go.Proofs.Lays2.n25 Tryz.prog Tryz.laysNm225_ren := {
  mixed := by kernel_rfl
  f25 := Tryz.func76.trans (congrArg some (by kernel_rfl))
  f31 := Tryz.func100.trans (congrArg some (by kernel_rfl))
  f32 := Tryz.func101.trans (congrArg some (by kernel_rfl))
  f37 := Tryz.func104.trans (congrArg some (by kernel_rfl))
  t0 := Tryz.underlying0
  a0 := Tryz.isAgg0
  z0 := Tryz.sizeOf0
  v0 := Tryz.zeroValue0
  t3 := Tryz.underlying3
  a3 := Tryz.isAgg3
  z3 := Tryz.sizeOf3
  v3 := Tryz.zeroValue3
  t4 := Tryz.underlying4
  a4 := Tryz.isAgg4
  z4 := Tryz.sizeOf4
  v4 := Tryz.zeroValue4
  t22 := Tryz.underlying48
  a22 := Tryz.isAgg48
  z22 := Tryz.sizeOf48
  v22 := Tryz.zeroValue48
  t40 := Tryz.underlying112
  a40 := Tryz.isAgg112
  z40 := Tryz.sizeOf112
  v40 := Tryz.zeroValue112 }
open Go.RowKit Go.Lib in
/-- slices.BinarySearch at []int: "BinarySearch searches for target in a sorted slice and returns the earliest position where target is found, or the position where target would appear in the sort order; it also returns a bool saying whether the target is really found in the slice. The slice must be sorted in increasing order.": OF A SORTED SLICE IT RETURNS how many elements are less than the target, and whether the target is among the elements; the world is as it was but for the count of draws. 'zs': what the cells behind the slice's address hold; 'zs.take n': its elements. (Of a slice that is not sorted: no contract here.) (LAID: no walk: one application.) -/
theorem Tryz.slices_BinarySearch_int (b off n c : Nat) (zs : List Int) (x : Int) (w : World) (hz : n ≤ zs.length) (hbig : n < 4611686018427387904) (hc : ∀ j, j < zs.length → w.cell? ⟨b, off + j, none⟩ = some (.int .i64 (zs.getD j 0))) (hs : (zs.take n).Pairwise (· ≤ ·)) :
    Calls Tryz.prog 76 #[.slice (some ⟨b, off, none⟩) n c, .int .i64 x] w fun e w' => e = .returned (.tuple #[.int .i64 ((zs.take n).countP (· < x) : Nat), .bool ((zs.take n).contains x)]) ∧ ∃ q, w' = w.drewN q := Any.slices_BinarySearch_int Tryz.laysNm225 b off n c zs x w hz hbig hc hs
open Go.RowKit Go.Lib Go.Sort in
/-- slices.Compact at []int, of an argument: the slice cut to 'Lib.compact (elements)'; the n cells hold that, then zeros. (LAID: no walk: one application.) -/
theorem Tryz.slices_Compact_int_cells (b off n c : Nat) (zs : List Int) (w : World) (hz : n ≤ zs.length) (hbig : n ≤ 9223372036854775807) (hcap : n ≤ c) (hc : ∀ j, j < zs.length → w.cell? ⟨b, off + j, none⟩ = some (.int .i64 (zs.getD j 0))) (hf : ∀ j, j < n → w.frozen? ⟨b, off + j, none⟩ = false) :
    Calls Tryz.prog 99 #[.slice (some ⟨b, off, none⟩) n c] w fun e w' => e = .returned (.slice (some ⟨b, off, none⟩) (Lib.compact (zs.take n)).length c) ∧ ∃ q, w' = (w.drewN q).setCells b off ((Lib.compact (zs.take n) ++ List.replicate (n - (Lib.compact (zs.take n)).length) 0).map (Value.int .i64)) := Any.slices_Compact_int_cells Tryz.laysNm220 b off n c zs w hz hbig hcap hc hf
open Go.RowKit Go.Sort in
/-- .. and plain. (LAID: no walk: one application.) -/
theorem Tryz.slices_Sort_int_none (p : Option Addr) (cap : Nat) (w : World) :
    Calls Tryz.prog 98 #[.slice p 0 cap] w fun e w' => e = .returned (.tuple #[]) ∧ w' = w := Any.slices_Sort_int_none Tryz.lays189 p cap w
open Go.RowKit Go.Lib in
/-- slices.BinarySearch at []int of no element: position 0, not found; the world is as it was. (LAID: no walk: one application.) -/
theorem Tryz.slices_BinarySearch_int_empty (a : Option Addr) (c : Nat) (x : Int) (w : World) :
    Calls Tryz.prog 76 #[.slice a 0 c, .int .i64 x] w fun e w' => e = .returned (.tuple #[.int .i64 0, .bool false]) ∧ w' = w := Any.slices_BinarySearch_int_empty Tryz.laysNm225 a c x w
end Go.Proofs
namespace Go.Proofs.YthfnijlgmjkedaaGreat
set_option maxRecDepth 100000
set_option linter.unusedVariables false
set_option linter.unusedSimpArgs false
open Go Go.Fx Go.Proofs.YthfnijlgmjkedaaGreat.Tab
section
variable {n a b : Int} {w : World}
theorem metric_isCoord_c : Ret Go.Proofs.Tryz.prog 85 #[iV n] w fun v w' => v = .bool (coordB n) ∧ w' = w := by
  refine enter Go.Proofs.Tryz.func85 rfl rfl rfl ?_
  refine W_sr rfl (s_as rfl (s_nil ?_))
  by_cases h0 : -268435455 ≤ n
  · refine W_sr rfl (s_mv rfl (s_cmp (c := true) rfl rfl (decide_eq_true h0) (s_mv rfl (s_g1 rfl (s_mv rfl (s_g1 rfl (s_leq rfl rfl (s_pk rfl (s_as rfl (s_nil ?_))))))))))
    exact W_ret ⟨_, rfl, by simp only [coordB, h0, decide_true, Bool.true_and]; rfl, rfl⟩
  · refine W_sr rfl (s_mv rfl (s_cmp (c := false) rfl rfl (decide_eq_false h0) (s_mv rfl (s_g0 rfl (s_g0 rfl (s_pk rfl (s_as rfl (s_nil ?_))))))))
    exact W_ret ⟨_, rfl, by simp only [coordB, h0, decide_false, Bool.false_and]; rfl, rfl⟩
theorem metric_isCode_c : Ret Go.Proofs.Tryz.prog 84 #[iV n] w fun v w' => v = .bool (codeB n) ∧ w' = w := by
  refine enter Go.Proofs.Tryz.func84 rfl rfl rfl ?_
  refine W_sr rfl (s_as rfl (s_nil ?_))
  by_cases h0 : 0 ≤ n
  · refine W_sr rfl (s_mv rfl (s_cmp (c := true) rfl rfl (decide_eq_true h0) (s_mv rfl (s_g1 rfl (s_mv rfl (s_g1 rfl (s_leq rfl rfl (s_pk rfl (s_as rfl (s_nil ?_))))))))))
    exact W_ret ⟨_, rfl, by simp only [codeB, h0, decide_true, Bool.true_and]; rfl, rfl⟩
  · refine W_sr rfl (s_mv rfl (s_cmp (c := false) rfl rfl (decide_eq_false h0) (s_mv rfl (s_g0 rfl (s_g0 rfl (s_pk rfl (s_as rfl (s_nil ?_))))))))
    exact W_ret ⟨_, rfl, by simp only [codeB, h0, decide_false, Bool.false_and]; rfl, rfl⟩
theorem metric_IsSize_c : Ret Go.Proofs.Tryz.prog 32 #[iV n] w fun v w' => v = .bool (sizeB n) ∧ w' = w := by
  refine enter Go.Proofs.Tryz.func32 rfl rfl rfl ?_
  refine W_sr rfl (s_as rfl (s_nil ?_))
  by_cases h0 : 1 ≤ n
  · refine W_sr rfl (s_mv rfl (s_cmp (c := true) rfl rfl (decide_eq_true h0) (s_mv rfl (s_g1 rfl (s_mv rfl (s_g1 rfl (s_leq rfl rfl (s_pk rfl (s_as rfl (s_nil ?_))))))))))
    exact W_ret ⟨_, rfl, by simp only [sizeB, h0, decide_true, Bool.true_and]; rfl, rfl⟩
  · refine W_sr rfl (s_mv rfl (s_cmp (c := false) rfl rfl (decide_eq_false h0) (s_mv rfl (s_g0 rfl (s_g0 rfl (s_pk rfl (s_as rfl (s_nil ?_))))))))
    exact W_ret ⟨_, rfl, by simp only [sizeB, h0, decide_false, Bool.false_and]; rfl, rfl⟩
theorem cmp_isNaN_int_c : Ret Go.Proofs.Tryz.prog 104 #[iV n] w fun v w' => v = .bool false ∧ w' = w := by
  refine enter Go.Proofs.Tryz.func104 rfl rfl rfl ?_
  refine W_sr rfl (s_as rfl (s_nil ?_))
  refine W_sr rfl (s_mv rfl (s_mv rfl (s_cmp (c := false) rfl rfl (by simp) (s_as rfl (s_nil ?_)))))
  exact W_ret ⟨_, rfl, rfl, rfl⟩
set_option maxRecDepth 100000 in
theorem cmp_Compare_int_c : Ret Go.Proofs.Tryz.prog 86 #[iV a, iV b] w fun v w' => v = iV (cmpI a b) ∧ w' = w := by
  refine enter Go.Proofs.Tryz.func86 rfl rfl rfl ?_
  refine W_sr rfl (s_as rfl (s_nil ?_))
  refine W_sr rfl (s_mv rfl (s_callp rfl rfl (cmp_isNaN_int_c) (s_as rfl (s_nil ?_))))
  refine W_sr rfl (s_mv rfl (s_callp rfl rfl (cmp_isNaN_int_c) (s_as rfl (s_nil ?_))))
  refine W_seq ?_
  refine W_sr rfl (s_mv rfl (s_nil ?_))
  refine W_if rfl (fun hc => by cases hc) (fun _ => W_skip ?_)
  refine W_seq ?_
  refine W_sr rfl (s_mv rfl (s_nil ?_))
  refine W_if rfl (fun hc => by cases hc) (fun _ => W_skip ?_)
  refine W_seq ?_
  refine W_sr rfl (s_mv rfl (s_mv rfl (s_lss rfl rfl (s_nil ?_))))
  refine W_if rfl (fun hc => ?_) (fun hc => W_skip ?_)
  · refine W_sr rfl (s_as rfl (s_nil ?_))
    exact W_ret ⟨_, rfl, by simp only [cmpI, if_pos (of_decide_eq_true hc)]; rfl, rfl⟩
  refine W_seq ?_
  refine W_sr rfl (s_mv rfl (s_mv rfl (s_gtr rfl rfl (s_nil ?_))))
  refine W_if rfl (fun hd => ?_) (fun hd => W_skip ?_)
  · refine W_sr rfl (s_as rfl (s_nil ?_))
    exact W_ret ⟨_, rfl, by simp only [cmpI, if_pos (of_decide_eq_true hd), if_neg (of_decide_eq_false hc)]; rfl, rfl⟩
  refine W_sr rfl (s_as rfl (s_nil ?_))
  exact W_ret ⟨_, rfl, by simp only [cmpI, if_neg (of_decide_eq_false hd), if_neg (of_decide_eq_false hc)]; rfl, rfl⟩
theorem metric_compareCodes_c {x y : Ch} : Ret Go.Proofs.Tryz.prog 36 #[chV x, chV y] w fun v w' => v = iV (codeCmp x y) ∧ Ext w w' := by
  refine enter Go.Proofs.Tryz.func36 rfl rfl rfl ?_
  refine W_sr rfl (s_bx rfl (s_bx rfl (s_as rfl (s_nil ?_))))
  refine W_sr rfl (s_fa E rfl rfl (s_ld E rfl rfl (bc1 rfl) (s_fa E rfl rfl (s_ld E rfl rfl (bc0 rfl) (s_callp rfl rfl (cmp_Compare_int_c) (s_as rfl (s_nil ?_)))))))
  exact W_ret ⟨_, rfl, rfl, e2⟩
theorem metric_isChar_c {x : Ch} : Ret Go.Proofs.Tryz.prog 34 #[chV x] w fun v w' => v = .bool (charB x) ∧ Ext w w' := by
  refine enter Go.Proofs.Tryz.func34 rfl rfl rfl ?_
  refine W_sr rfl (s_bx rfl (s_as rfl (s_nil ?_)))
  cases h0 : codeB x.code
  · refine W_sr rfl (s_fa E rfl rfl (s_ld E rfl rfl (bc0 rfl) (s_callp rfl rfl (Ret.eqv (metric_isCode_c) (congrArg Value.bool h0)) (s_mv rfl (s_g0 rfl (s_g0 rfl (s_g0 rfl (s_pk rfl (s_mv rfl (s_g0 rfl (s_g0 rfl (s_g0 rfl (s_pk rfl (s_mv rfl (s_g0 rfl (s_g0 rfl (s_g0 rfl (s_pk rfl (s_as rfl (s_nil ?_))))))))))))))))))))
    exact W_ret ⟨_, rfl, by simp only [charB, h0, Bool.false_and]; rfl, e1⟩
  cases h1 : coordB x.width
  · refine W_sr rfl (s_fa E rfl rfl (s_ld E rfl rfl (bc0 rfl) (s_callp rfl rfl (Ret.eqv (metric_isCode_c) (congrArg Value.bool h0)) (s_mv rfl (s_g1 rfl (s_fa E rfl rfl (s_g1 rfl (s_ld E rfl rfl (bc0 rfl) (s_g1 rfl (s_callp rfl rfl (Ret.eqv (metric_isCoord_c) (congrArg Value.bool h1)) (s_pk rfl (s_mv rfl (s_g0 rfl (s_g0 rfl (s_g0 rfl (s_pk rfl (s_mv rfl (s_g0 rfl (s_g0 rfl (s_g0 rfl (s_pk rfl (s_as rfl (s_nil ?_)))))))))))))))))))))))
    exact W_ret ⟨_, rfl, by simp only [charB, h0, h1, Bool.false_and, Bool.true_and]; rfl, e1⟩
  cases h2 : coordB x.height
  · refine W_sr rfl (s_fa E rfl rfl (s_ld E rfl rfl (bc0 rfl) (s_callp rfl rfl (Ret.eqv (metric_isCode_c) (congrArg Value.bool h0)) (s_mv rfl (s_g1 rfl (s_fa E rfl rfl (s_g1 rfl (s_ld E rfl rfl (bc0 rfl) (s_g1 rfl (s_callp rfl rfl (Ret.eqv (metric_isCoord_c) (congrArg Value.bool h1)) (s_pk rfl (s_mv rfl (s_g1 rfl (s_fa E rfl rfl (s_g1 rfl (s_ld E rfl rfl (bc0 rfl) (s_g1 rfl (s_callp rfl rfl (Ret.eqv (metric_isCoord_c) (congrArg Value.bool h2)) (s_pk rfl (s_mv rfl (s_g0 rfl (s_g0 rfl (s_g0 rfl (s_pk rfl (s_as rfl (s_nil ?_))))))))))))))))))))))))))
    exact W_ret ⟨_, rfl, by simp only [charB, h0, h1, h2, Bool.false_and, Bool.true_and]; rfl, e1⟩
  refine W_sr rfl (s_fa E rfl rfl (s_ld E rfl rfl (bc0 rfl) (s_callp rfl rfl (Ret.eqv (metric_isCode_c) (congrArg Value.bool h0)) (s_mv rfl (s_g1 rfl (s_fa E rfl rfl (s_g1 rfl (s_ld E rfl rfl (bc0 rfl) (s_g1 rfl (s_callp rfl rfl (Ret.eqv (metric_isCoord_c) (congrArg Value.bool h1)) (s_pk rfl (s_mv rfl (s_g1 rfl (s_fa E rfl rfl (s_g1 rfl (s_ld E rfl rfl (bc0 rfl) (s_g1 rfl (s_callp rfl rfl (Ret.eqv (metric_isCoord_c) (congrArg Value.bool h2)) (s_pk rfl (s_mv rfl (s_g1 rfl (s_fa E rfl rfl (s_g1 rfl (s_ld E rfl rfl (bc0 rfl) (s_g1 rfl (s_callp rfl rfl (metric_isCoord_c) (s_pk rfl (s_as rfl (s_nil ?_)))))))))))))))))))))))))))))
  exact W_ret ⟨_, rfl, by simp only [charB, h0, h1, h2, Bool.true_and]; rfl, e1⟩
end
end Go.Proofs.YthfnijlgmjkedaaGreat
namespace Go.Proofs.YthfnijlgmjkedaaGreat
set_option maxRecDepth 100000
set_option linter.unusedVariables false
set_option linter.unusedSimpArgs false
open Go Go.Fx Go.Proofs.YthfnijlgmjkedaaGreat.Tab
def orI : List Int → Int
  | [] => 0
  | a :: l => if a ≠ 0 then a else orI l
theorem orI_drop (l : List Int) (i : Nat) (hi : i < l.length) : orI (l.drop i) = if l[i] ≠ 0 then l[i] else orI (l.drop (i + 1)) := by
  rw [List.drop_eq_getElem_cons hi, orI]
theorem sl_map {w : World} {p : Option Addr} {l : List Int} (hp : SlR w p (l.map iV)) {i : Nat} (hi : i < l.length) : ∃ a, p = some a ∧ w.cell? (a.add (i * 1)) = some (iV l[i]) := by
  obtain ⟨a, rfl, h⟩ := hp.some (by intro h0; simp at h0; subst h0; simp at hi)
  exact ⟨a, rfl, by rw [Nat.mul_one]; exact h i _ (by simp [hi])⟩
theorem cmp_Or_int_c {p : Option Addr} {n c : Nat} {l : List Int} {w : World} (hn : n = l.length) (hm : n ≤ 1000000) (hp : SlR w p (l.map iV)) :
    Ret Go.Proofs.Tryz.prog 94 #[.slice p n c] w fun v w' => v = iV (orI l) ∧ w' = w := by
  refine enter Go.Proofs.Tryz.func94 rfl rfl rfl ?_
  refine W_sr rfl (s_as rfl (s_nil ?_))
  refine W_sr rfl (s_as rfl (s_nil ?_))
  refine W_seq ?_
  refine W_sr rfl (s_mv rfl (s_len E rfl rfl (s_mv rfl (s_nil ?_))))
  refine W_block ?_
  refine W_loop (fun m ρ w' => ∃ ρ' i, ρ = upd (upd (upd (upd ρ' 3 (iV 0)) 6 (.slice p n c)) 7 (iV n)) 8 (iV (i : Nat)) ∧ w' = w ∧ i ≤ n ∧ m = n - i ∧ orI l = orI (l.drop i)) n ⟨_, 0, u4 rfl rfl rfl rfl, rfl, by omega, by omega, rfl⟩ ?_
  rintro m _ _ ⟨ρ, i, rfl, rfl, hi, rfl, ho⟩
  refine W_sr rfl (s_lss rfl rfl (s_nil ?_))
  refine W_seq ?_
  refine W_if rfl (fun hc => W_skip ?_) (fun hc => W_exit ?_)
  · have hc := of_decide_eq_true hc
    have hil : i < l.length := by omega
    obtain ⟨a, rfl, hcell⟩ := sl_map hp hil
    refine W_seq (W_block ?_)
    refine W_sr rfl (s_ia E rfl rfl rfl rfl (by omega) (s_ld E rfl rfl hcell (s_as rfl (s_nil ?_))))
    refine W_sr rfl (s_mv rfl (s_mv rfl (s_neq rfl rfl (s_nil ?_))))
    refine W_if rfl (fun hd => ?_) (fun hd => W_skip ?_)
    · have hd := of_decide_eq_true hd
      refine W_sr rfl (s_mv rfl (s_as rfl (s_nil ?_)))
      refine W_ret ⟨_, rfl, ?_, rfl⟩
      rw [ho, orI_drop l i hil, if_pos hd]; rfl
    · have hd := of_decide_eq_false hd
      refine W_reg rfl (s_add rfl rfl (by omega) (s_mv rfl (s_nil ?_)))
      refine ⟨n - (i + 1), by omega, _, i + 1, u4 rfl rfl rfl rfl, rfl, by omega, rfl, ?_⟩
      rw [ho, orI_drop l i hil, if_neg hd]
  · have hc := of_decide_eq_false hc
    refine W_sr rfl (s_mv rfl (s_as rfl (s_nil ?_)))
    refine W_ret ⟨_, rfl, ?_, rfl⟩
    rw [ho, List.drop_of_length_le (by omega)]; rfl
theorem metric_ComparePairs_c {x y : Ru} {w : World} : Ret Go.Proofs.Tryz.prog 55 #[ruV x, ruV y] w fun v w' => v = iV (pairCmp x y) ∧ Ext w w' := by
  refine enter Go.Proofs.Tryz.func55 rfl rfl rfl ?_
  refine W_sr rfl (s_bx rfl (s_bx rfl (s_as rfl (s_nil ?_))))
  refine W_dr (Ext ((w.alloc _).alloc _)) [] orders (D_pure 0 rfl rfl (by kernel_rfl) rfl (fun _ => r_fa E rfl rfl) (fun _ => Ext.drew0) (D_take 1 rfl rfl (by kernel_rfl) rfl (fun _ hs => r_ld E rfl rfl (Ext.cell hs (bc1 rfl))) Ext.drew0 (D_pure 2 rfl rfl (by kernel_rfl) rfl (fun _ => r_fa E rfl rfl) (fun _ => Ext.drew0) (D_take 3 rfl rfl (by kernel_rfl) rfl (fun _ hs => r_ld E rfl rfl (Ext.cell hs (bc0 rfl))) Ext.drew0 (D_pure 5 rfl rfl (by kernel_rfl) rfl (fun _ => r_fa E rfl rfl) (fun _ => Ext.drew0) (D_take 6 rfl rfl (by kernel_rfl) rfl (fun _ hs => r_ld E rfl rfl (Ext.cell hs (bc1 rfl))) Ext.drew0 (D_pure 7 rfl rfl (by kernel_rfl) rfl (fun _ => r_fa E rfl rfl) (fun _ => Ext.drew0) (D_take 8 rfl rfl (by kernel_rfl) rfl (fun _ hs => r_ld E rfl rfl (Ext.cell hs (bc0 rfl))) Ext.drew0 (D_one 4 rfl (by kernel_rfl) rfl (s_callp rfl rfl (cmp_Compare_int_c) (s_nil ⟨Ext.drew0, (D_one 9 rfl (by kernel_rfl) rfl (s_callp rfl rfl (cmp_Compare_int_c) (s_nil ⟨Ext.drew0, (D_one 10 rfl (by kernel_rfl) rfl (s_bs E rfl rfl rfl rfl rfl (cells := #[iV (cmpI x.first y.first), iV (cmpI x.next y.next)]) (by kernel_rfl) (s_nil ⟨(Mod.alloc Ext.drew0 _), (D_one 11 rfl (by kernel_rfl) rfl (s_callp rfl rfl (cmp_Or_int_c (l := [cmpI x.first y.first, cmpI x.next y.next]) rfl (by decide) bcr) (s_nil ⟨(Mod.alloc Ext.drew0 _), (D_one 12 rfl (by kernel_rfl) rfl (s_as rfl (s_nil ⟨(Mod.alloc Ext.drew0 _), (D_done (by kernel_rfl) ?_)⟩)))⟩)))⟩)))⟩)))⟩)))))))))))
  refine W_ret ⟨_, rfl, ?_, ?_⟩
  · show iV (orI [cmpI x.first y.first, cmpI x.next y.next]) = _
    by_cases h : cmpI x.first y.first = 0 <;> by_cases k : cmpI x.next y.next = 0 <;> simp [orI, pairCmp, h, k]
  · exact e2.trans (Mod.alloc Ext.drew0 _)
end Go.Proofs.YthfnijlgmjkedaaGreat
namespace Go.Proofs.YthfnijlgmjkedaaGreat
set_option maxRecDepth 100000
set_option linter.unusedVariables false
set_option linter.unusedSimpArgs false
open Go Go.Fx Go.Proofs.YthfnijlgmjkedaaGreat.Tab
theorem metric_isRule_c {x : Ru} {w : World} : Ret Go.Proofs.Tryz.prog 52 #[ruV x] w fun v w' => v = .bool (ruleB x) ∧ Ext w w' := by
  refine enter Go.Proofs.Tryz.func52 rfl rfl rfl ?_
  refine W_sr rfl (s_bx rfl (s_as rfl (s_nil ?_)))
  refine W_sr rfl (s_fa E rfl rfl (s_ld E rfl rfl (bc0 rfl) (s_callp rfl rfl (metric_isCode_c) (s_as rfl (s_nil ?_)))))
  refine W_sk fun K hK => ?_
  have H : ∀ (ρ : Fr) w', Row w' ⟨w.heap.size, 0, none⟩ (ruC x) → Ext w w' → ρ 1 = .pointer (some ⟨w.heap.size, 0, none⟩) → ρ 3 = .bool (if x.op = 0 then coordB x.value else codeB x.value) → K ρ w' := by
    intro ρ w' hr hE h1 h3
    rw [u2 h1 h3]
    refine hK _ _ ?_
    cases h0 : codeB x.first
    · refine W_sr rfl (s_fa E rfl rfl (s_ld E rfl rfl (hr _ _ rfl) (s_callp rfl rfl (Ret.eqv (metric_isCode_c) (congrArg Value.bool h0)) (s_mv rfl (s_g0 rfl (s_g0 rfl (s_g0 rfl (s_pk rfl (s_mv rfl (s_g0 rfl (s_g0 rfl (s_g0 rfl (s_pk rfl (s_mv rfl (s_g0 rfl (s_g0 rfl (s_g0 rfl (s_pk rfl (s_mv rfl (s_g0 rfl (s_pk rfl (s_as rfl (s_nil ?_)))))))))))))))))))))))
      exact W_ret ⟨_, rfl, by simp only [ruleB, h0, Bool.false_and]; rfl, hE⟩
    cases h1 : codeB x.next
    · refine W_sr rfl (s_fa E rfl rfl (s_ld E rfl rfl (hr _ _ rfl) (s_callp rfl rfl (Ret.eqv (metric_isCode_c) (congrArg Value.bool h0)) (s_mv rfl (s_g1 rfl (s_fa E rfl rfl (s_g1 rfl (s_ld E rfl rfl (hr _ _ rfl) (s_g1 rfl (s_callp rfl rfl (Ret.eqv (metric_isCode_c) (congrArg Value.bool h1)) (s_pk rfl (s_mv rfl (s_g0 rfl (s_g0 rfl (s_g0 rfl (s_pk rfl (s_mv rfl (s_g0 rfl (s_g0 rfl (s_g0 rfl (s_pk rfl (s_mv rfl (s_g0 rfl (s_pk rfl (s_as rfl (s_nil ?_))))))))))))))))))))))))))
      exact W_ret ⟨_, rfl, by simp only [ruleB, h0, h1, Bool.false_and, Bool.true_and]; rfl, hE⟩
    by_cases h2 : 0 ≤ x.op
    case neg =>
      refine W_sr rfl (s_fa E rfl rfl (s_ld E rfl rfl (hr _ _ rfl) (s_callp rfl rfl (Ret.eqv (metric_isCode_c) (congrArg Value.bool h0)) (s_mv rfl (s_g1 rfl (s_fa E rfl rfl (s_g1 rfl (s_ld E rfl rfl (hr _ _ rfl) (s_g1 rfl (s_callp rfl rfl (Ret.eqv (metric_isCode_c) (congrArg Value.bool h1)) (s_pk rfl (s_mv rfl (s_g1 rfl (s_fa E rfl rfl (s_g1 rfl (s_ld E rfl rfl (hr _ _ rfl) (s_g1 rfl (s_cmp (c := false) rfl rfl (decide_eq_false h2) (s_pk rfl (s_mv rfl (s_g0 rfl (s_g0 rfl (s_g0 rfl (s_pk rfl (s_mv rfl (s_g0 rfl (s_pk rfl (s_as rfl (s_nil ?_)))))))))))))))))))))))))))))
      exact W_ret ⟨_, rfl, by simp only [ruleB, h0, h1, h2, decide_false, Bool.false_and, Bool.true_and]; rfl, hE⟩
    by_cases h3 : x.op ≤ 4
    case neg =>
      refine W_sr rfl (s_fa E rfl rfl (s_ld E rfl rfl (hr _ _ rfl) (s_callp rfl rfl (Ret.eqv (metric_isCode_c) (congrArg Value.bool h0)) (s_mv rfl (s_g1 rfl (s_fa E rfl rfl (s_g1 rfl (s_ld E rfl rfl (hr _ _ rfl) (s_g1 rfl (s_callp rfl rfl (Ret.eqv (metric_isCode_c) (congrArg Value.bool h1)) (s_pk rfl (s_mv rfl (s_g1 rfl (s_fa E rfl rfl (s_g1 rfl (s_ld E rfl rfl (hr _ _ rfl) (s_g1 rfl (s_cmp (c := true) rfl rfl (decide_eq_true h2) (s_pk rfl (s_mv rfl (s_g1 rfl (s_fa E rfl rfl (s_g1 rfl (s_ld E rfl rfl (hr _ _ rfl) (s_g1 rfl (s_cmp (c := false) rfl rfl (decide_eq_false h3) (s_pk rfl (s_mv rfl (s_g0 rfl (s_pk rfl (s_as rfl (s_nil ?_))))))))))))))))))))))))))))))))
      exact W_ret ⟨_, rfl, by simp only [ruleB, h0, h1, h2, h3, decide_true, decide_false, Bool.false_and, Bool.true_and]; rfl, hE⟩
    refine W_sr rfl (s_fa E rfl rfl (s_ld E rfl rfl (hr _ _ rfl) (s_callp rfl rfl (Ret.eqv (metric_isCode_c) (congrArg Value.bool h0)) (s_mv rfl (s_g1 rfl (s_fa E rfl rfl (s_g1 rfl (s_ld E rfl rfl (hr _ _ rfl) (s_g1 rfl (s_callp rfl rfl (Ret.eqv (metric_isCode_c) (congrArg Value.bool h1)) (s_pk rfl (s_mv rfl (s_g1 rfl (s_fa E rfl rfl (s_g1 rfl (s_ld E rfl rfl (hr _ _ rfl) (s_g1 rfl (s_cmp (c := true) rfl rfl (decide_eq_true h2) (s_pk rfl (s_mv rfl (s_g1 rfl (s_fa E rfl rfl (s_g1 rfl (s_ld E rfl rfl (hr _ _ rfl) (s_g1 rfl (s_cmp (c := true) rfl rfl (decide_eq_true h3) (s_pk rfl (s_mv rfl (s_g1 rfl (s_mv rfl (s_pk rfl (s_as rfl (s_nil ?_)))))))))))))))))))))))))))))))))
    exact W_ret ⟨_, rfl, by simp only [ruleB, h0, h1, h2, h3, decide_true, Bool.true_and]; rfl, hE⟩
  by_cases hop : x.op = 0
  · refine W_sr rfl (s_fa E rfl rfl (s_ld E rfl rfl (bc0 rfl) (s_cmp (c := true) rfl rfl (decide_eq_true hop) (s_nil ?_))))
    refine W_if rfl (fun _ => ?_) (fun h => by cases h)
    refine W_reg rfl (s_fa E rfl rfl (s_ld E rfl rfl (bc0 rfl) (s_callp rfl rfl (metric_isCoord_c) (s_as rfl (s_nil ?_)))))
    exact H _ _ bcr e1 rfl (by rw [if_pos hop]; rfl)
  · refine W_sr rfl (s_fa E rfl rfl (s_ld E rfl rfl (bc0 rfl) (s_cmp (c := false) rfl rfl (decide_eq_false hop) (s_nil ?_))))
    refine W_if rfl (fun h => by cases h) (fun _ => W_skip ?_)
    exact H _ _ bcr e1 rfl (by rw [if_neg hop]; rfl)
def idxF {α : Type} (f : α → Bool) : List α → Int
  | [] => -1
  | a :: l => if f a then 0 else let r := idxF f l; if r < 0 then -1 else r + 1
theorem idxF_none {α : Type} (f : α → Bool) (l : List α) (h : ∀ j (hj : j < l.length), f l[j] = false) : idxF f l = -1 := by
  induction l with
  | nil => rfl
  | cons a l ih =>
    have h0 := h 0 (by simp)
    simp only [List.getElem_cons_zero] at h0
    have := ih fun j hj => h (j + 1) (by simpa using hj)
    simp [idxF, h0, this]
theorem idxF_some {α : Type} (f : α → Bool) (l : List α) (i : Nat) (hi : i < l.length) (h : ∀ j (hj : j < i), f l[j] = false) (hf : f l[i] = true) : idxF f l = i := by
  induction l generalizing i with
  | nil => simp at hi
  | cons a l ih => cases i with
    | zero => simp only [List.getElem_cons_zero] at hf; simp [idxF, hf]
    | succ i =>
      have h0 := h 0 (by omega)
      simp only [List.getElem_cons_zero] at h0
      have := ih i (by simpa using hi) (fun j hj => h (j + 1) (by omega)) (by simpa using hf)
      simp [idxF, h0, this]
      omega
theorem idxF_any {α : Type} (f : α → Bool) (l : List α) : decide (0 ≤ idxF f l) = l.any f := by
  induction l with
  | nil => rfl
  | cons a l ih =>
    cases h : f a
    · simp only [idxF, h, List.any_cons, Bool.false_or, ← ih]
      by_cases hr : idxF f l < 0
      · simp [hr]
      · simp [hr]; omega
    · simp [idxF, h]
theorem metric_all_CharMetric_1_c {x : Ch} {a : Addr} {g : FuncId} {want : Ch → Bool} {w : World} (hc : w.cell? a = some (.func (.func g) #[] #[])) (hg : ∀ x w, Ret Go.Proofs.Tryz.prog g #[chV x] w fun v w' => v = .bool (want x) ∧ Ext w w') :
    Ret Go.Proofs.Tryz.prog 83 #[chV x, .pointer (some a)] w fun v w' => v = .bool (!want x) ∧ Ext w w' := by
  refine enter Go.Proofs.Tryz.func83 rfl rfl rfl ?_
  refine W_sr rfl (s_bx rfl (s_as rfl (s_nil ?_)))
  refine W_sr rfl (s_ld E rfl rfl (Ext.cell e1 hc) (s_lda E rfl rfl bcr rfl (s_callx rfl rfl (hg x _) fun w1 hE1 => (s_not rfl (s_as rfl (s_nil ?_))))))
  exact W_ret ⟨_, rfl, rfl, e1.trans hE1⟩
theorem slices_IndexFunc_CharMetric_c {p : Option Addr} {n c : Nat} {l : List Ch} {g : FuncId} {cs : Array Value} {f : Ch → Bool} {w : World} (hn : n = l.length) (hm : n ≤ 1000000) (hp : SlR w p (l.flatMap chC))
    (hg : ∀ x w', Ext w w' → Ret Go.Proofs.Tryz.prog g (chV x :: cs.toList).toArray w' fun v w'' => v = .bool (f x) ∧ Ext w' w'') :
    Ret Go.Proofs.Tryz.prog 103 #[.slice p n c, .func (.func g) #[] cs] w fun v w' => v = iV (idxF f l) ∧ Ext w w' := by
  refine enter Go.Proofs.Tryz.func103 rfl rfl rfl ?_
  refine W_sr rfl (s_as rfl (s_nil ?_))
  refine W_seq ?_
  refine W_sr rfl (s_mv rfl (s_len E rfl rfl (s_mv rfl (s_nil ?_))))
  refine W_block ?_
  refine W_loop (fun m ρ w' => ∃ ρ' i, ρ = upd (upd (upd (upd ρ' 0 (.slice p n c)) 1 (.func (.func g) #[] cs)) 7 (iV n)) 8 (iV (i : Nat)) ∧ Ext w w' ∧ i ≤ n ∧ m = n - i ∧ ∀ j (h : j < l.length), j < i → f l[j] = false) n
    ⟨_, 0, u4 rfl rfl rfl rfl, Mod.refl, by omega, by omega, fun j _ h => by omega⟩ ?_
  rintro m _ w1 ⟨ρ, i, rfl, hE1, hi, rfl, ho⟩
  refine W_sr rfl (s_lss rfl rfl (s_nil ?_))
  refine W_seq ?_
  refine W_if rfl (fun hc => W_skip ?_) (fun hc => W_exit ?_)
  · have hc := of_decide_eq_true hc
    have hil : i < l.length := by omega
    obtain ⟨a, rfl, hrow⟩ := hp.some (by intro h0; have := flat_length chC 4 chC_len l; rw [h0] at this; simp at this; omega)
    refine W_seq (W_block ?_)
    refine W_sr rfl (s_mv rfl (s_as rfl (s_nil ?_)))
    refine W_sr rfl (s_mv rfl (s_mv rfl (s_mv rfl (s_ia E rfl rfl rfl rfl (by omega) (s_lda E rfl rfl (Ext.row hE1 (hrow.at chC_len hil)) rfl (s_callx rfl rfl (hg l[i] _ hE1) fun w2 hE2 => (s_nil ?_)))))))
    refine W_if rfl (fun hd => ?_) (fun hd => W_skip ?_)
    · refine W_sr rfl (s_mv rfl (s_as rfl (s_nil ?_)))
      refine W_ret ⟨_, rfl, ?_, hE1.trans hE2⟩
      rw [idxF_some f l i hil (fun j hj => ho j (by omega) hj) hd]; rfl
    · refine W_reg rfl (s_add rfl rfl (by omega) (s_mv rfl (s_nil ?_)))
      refine ⟨n - (i + 1), by omega, _, i + 1, u4 rfl rfl rfl rfl, hE1.trans hE2, by omega, rfl, fun j hj h => ?_⟩
      by_cases e : j = i
      · subst e; exact hd
      · exact ho j hj (by omega)
  · have hc := of_decide_eq_false hc
    refine W_sr rfl (s_as rfl (s_nil ?_))
    refine W_ret ⟨_, rfl, ?_, hE1⟩
    rw [idxF_none f l fun j hj => ho j hj (by omega)]; rfl
theorem slices_ContainsFunc_CharMetric_c {p : Option Addr} {n c : Nat} {l : List Ch} {g : FuncId} {cs : Array Value} {f : Ch → Bool} {w : World} (hn : n = l.length) (hm : n ≤ 1000000) (hp : SlR w p (l.flatMap chC))
    (hg : ∀ x w', Ext w w' → Ret Go.Proofs.Tryz.prog g (chV x :: cs.toList).toArray w' fun v w'' => v = .bool (f x) ∧ Ext w' w'') :
    Ret Go.Proofs.Tryz.prog 82 #[.slice p n c, .func (.func g) #[] cs] w fun v w' => v = .bool (l.any f) ∧ Ext w w' := by
  refine enter Go.Proofs.Tryz.func82 rfl rfl rfl ?_
  refine W_sr rfl (s_as rfl (s_nil ?_))
  refine W_sr rfl (s_mv rfl (s_mv rfl (s_callx rfl rfl (slices_IndexFunc_CharMetric_c hn hm hp hg) fun w1 hE1 => (s_geq rfl rfl (s_as rfl (s_nil ?_))))))
  exact W_ret ⟨_, rfl, by rw [← idxF_any]; rfl, hE1⟩
theorem metric_all_CharMetric_c {p : Option Addr} {n c : Nat} {l : List Ch} {g : FuncId} {want : Ch → Bool} {w : World} (hn : n = l.length) (hm : n ≤ 1000000) (hp : SlR w p (l.flatMap chC))
    (hg : ∀ x w, Ret Go.Proofs.Tryz.prog g #[chV x] w fun v w' => v = .bool (want x) ∧ Ext w w') :
    Ret Go.Proofs.Tryz.prog 33 #[.slice p n c, .func (.func g) #[] #[]] w fun v w' => v = .bool (l.all want) ∧ Ext w w' := by
  refine enter Go.Proofs.Tryz.func33 rfl rfl rfl ?_
  refine W_sr rfl (s_bx rfl (s_as rfl (s_nil ?_)))
  refine W_sr rfl (s_mv rfl (s_mf rfl rfl (s_callx rfl rfl (slices_ContainsFunc_CharMetric_c hn hm (Ext.sl e1 hp) (fun x w' hw' => metric_all_CharMetric_1_c (Ext.cell hw' (bc0 (j := 0) rfl)) hg)) fun w1 hE1 => (s_not rfl (s_as rfl (s_nil ?_))))))
  refine W_ret ⟨_, rfl, ?_, e1.trans hE1⟩
  rw [List.all_eq_not_any_not]; rfl
theorem metric_all_LigRule_1_c {x : Ru} {a : Addr} {g : FuncId} {want : Ru → Bool} {w : World} (hc : w.cell? a = some (.func (.func g) #[] #[])) (hg : ∀ x w, Ret Go.Proofs.Tryz.prog g #[ruV x] w fun v w' => v = .bool (want x) ∧ Ext w w') :
    Ret Go.Proofs.Tryz.prog 93 #[ruV x, .pointer (some a)] w fun v w' => v = .bool (!want x) ∧ Ext w w' := by
  refine enter Go.Proofs.Tryz.func93 rfl rfl rfl ?_
  refine W_sr rfl (s_bx rfl (s_as rfl (s_nil ?_)))
  refine W_sr rfl (s_ld E rfl rfl (Ext.cell e1 hc) (s_lda E rfl rfl bcr rfl (s_callx rfl rfl (hg x _) fun w1 hE1 => (s_not rfl (s_as rfl (s_nil ?_))))))
  exact W_ret ⟨_, rfl, rfl, e1.trans hE1⟩
theorem slices_IndexFunc_LigRule_c {p : Option Addr} {n c : Nat} {l : List Ru} {g : FuncId} {cs : Array Value} {f : Ru → Bool} {w : World} (hn : n = l.length) (hm : n ≤ 1000000) (hp : SlR w p (l.flatMap ruC))
    (hg : ∀ x w', Ext w w' → Ret Go.Proofs.Tryz.prog g (ruV x :: cs.toList).toArray w' fun v w'' => v = .bool (f x) ∧ Ext w' w'') :
    Ret Go.Proofs.Tryz.prog 107 #[.slice p n c, .func (.func g) #[] cs] w fun v w' => v = iV (idxF f l) ∧ Ext w w' := by
  refine enter Go.Proofs.Tryz.func107 rfl rfl rfl ?_
  refine W_sr rfl (s_as rfl (s_nil ?_))
  refine W_seq ?_
  refine W_sr rfl (s_mv rfl (s_len E rfl rfl (s_mv rfl (s_nil ?_))))
  refine W_block ?_
  refine W_loop (fun m ρ w' => ∃ ρ' i, ρ = upd (upd (upd (upd ρ' 0 (.slice p n c)) 1 (.func (.func g) #[] cs)) 7 (iV n)) 8 (iV (i : Nat)) ∧ Ext w w' ∧ i ≤ n ∧ m = n - i ∧ ∀ j (h : j < l.length), j < i → f l[j] = false) n
    ⟨_, 0, u4 rfl rfl rfl rfl, Mod.refl, by omega, by omega, fun j _ h => by omega⟩ ?_
  rintro m _ w1 ⟨ρ, i, rfl, hE1, hi, rfl, ho⟩
  refine W_sr rfl (s_lss rfl rfl (s_nil ?_))
  refine W_seq ?_
  refine W_if rfl (fun hc => W_skip ?_) (fun hc => W_exit ?_)
  · have hc := of_decide_eq_true hc
    have hil : i < l.length := by omega
    obtain ⟨a, rfl, hrow⟩ := hp.some (by intro h0; have := flat_length ruC 4 ruC_len l; rw [h0] at this; simp at this; omega)
    refine W_seq (W_block ?_)
    refine W_sr rfl (s_mv rfl (s_as rfl (s_nil ?_)))
    refine W_sr rfl (s_mv rfl (s_mv rfl (s_mv rfl (s_ia E rfl rfl rfl rfl (by omega) (s_lda E rfl rfl (Ext.row hE1 (hrow.at ruC_len hil)) rfl (s_callx rfl rfl (hg l[i] _ hE1) fun w2 hE2 => (s_nil ?_)))))))
    refine W_if rfl (fun hd => ?_) (fun hd => W_skip ?_)
    · refine W_sr rfl (s_mv rfl (s_as rfl (s_nil ?_)))
      refine W_ret ⟨_, rfl, ?_, hE1.trans hE2⟩
      rw [idxF_some f l i hil (fun j hj => ho j (by omega) hj) hd]; rfl
    · refine W_reg rfl (s_add rfl rfl (by omega) (s_mv rfl (s_nil ?_)))
      refine ⟨n - (i + 1), by omega, _, i + 1, u4 rfl rfl rfl rfl, hE1.trans hE2, by omega, rfl, fun j hj h => ?_⟩
      by_cases e : j = i
      · subst e; exact hd
      · exact ho j hj (by omega)
  · have hc := of_decide_eq_false hc
    refine W_sr rfl (s_as rfl (s_nil ?_))
    refine W_ret ⟨_, rfl, ?_, hE1⟩
    rw [idxF_none f l fun j hj => ho j hj (by omega)]; rfl
theorem slices_ContainsFunc_LigRule_c {p : Option Addr} {n c : Nat} {l : List Ru} {g : FuncId} {cs : Array Value} {f : Ru → Bool} {w : World} (hn : n = l.length) (hm : n ≤ 1000000) (hp : SlR w p (l.flatMap ruC))
    (hg : ∀ x w', Ext w w' → Ret Go.Proofs.Tryz.prog g (ruV x :: cs.toList).toArray w' fun v w'' => v = .bool (f x) ∧ Ext w' w'') :
    Ret Go.Proofs.Tryz.prog 92 #[.slice p n c, .func (.func g) #[] cs] w fun v w' => v = .bool (l.any f) ∧ Ext w w' := by
  refine enter Go.Proofs.Tryz.func92 rfl rfl rfl ?_
  refine W_sr rfl (s_as rfl (s_nil ?_))
  refine W_sr rfl (s_mv rfl (s_mv rfl (s_callx rfl rfl (slices_IndexFunc_LigRule_c hn hm hp hg) fun w1 hE1 => (s_geq rfl rfl (s_as rfl (s_nil ?_))))))
  exact W_ret ⟨_, rfl, by rw [← idxF_any]; rfl, hE1⟩
theorem metric_all_LigRule_c {p : Option Addr} {n c : Nat} {l : List Ru} {g : FuncId} {want : Ru → Bool} {w : World} (hn : n = l.length) (hm : n ≤ 1000000) (hp : SlR w p (l.flatMap ruC))
    (hg : ∀ x w, Ret Go.Proofs.Tryz.prog g #[ruV x] w fun v w' => v = .bool (want x) ∧ Ext w w') :
    Ret Go.Proofs.Tryz.prog 51 #[.slice p n c, .func (.func g) #[] #[]] w fun v w' => v = .bool (l.all want) ∧ Ext w w' := by
  refine enter Go.Proofs.Tryz.func51 rfl rfl rfl ?_
  refine W_sr rfl (s_bx rfl (s_as rfl (s_nil ?_)))
  refine W_sr rfl (s_mv rfl (s_mf rfl rfl (s_callx rfl rfl (slices_ContainsFunc_LigRule_c hn hm (Ext.sl e1 hp) (fun x w' hw' => metric_all_LigRule_1_c (Ext.cell hw' (bc0 (j := 0) rfl)) hg)) fun w1 hE1 => (s_not rfl (s_as rfl (s_nil ?_))))))
  refine W_ret ⟨_, rfl, ?_, e1.trans hE1⟩
  rw [List.all_eq_not_any_not]; rfl
end Go.Proofs.YthfnijlgmjkedaaGreat
namespace Go.Proofs.YthfnijlgmjkedaaGreat
set_option maxRecDepth 100000
set_option linter.unusedVariables false
set_option linter.unusedSimpArgs false
open Go Go.Fx Go.Proofs.YthfnijlgmjkedaaGreat.Tab
theorem metric_rising_CharMetric_c {p : Option Addr} {n c : Nat} {l : List Ch} {g : FuncId} {cmp : Ch → Ch → Int} {w : World} (hn : n = l.length) (hm : n ≤ 1000000) (hp : SlR w p (l.flatMap chC))
    (hg : ∀ x y w, Ret Go.Proofs.Tryz.prog g #[chV x, chV y] w fun v w' => v = iV (cmp x y) ∧ Ext w w') :
    Ret Go.Proofs.Tryz.prog 35 #[.slice p n c, .func (.func g) #[] #[]] w fun v w' => v = .bool (risingB cmp l) ∧ Ext w w' := by
  refine enter Go.Proofs.Tryz.func35 rfl rfl rfl ?_
  refine W_sr rfl (s_as rfl (s_nil ?_))
  refine W_seq ?_
  refine W_sr rfl (s_as rfl (s_nil ?_))
  refine W_block ?_
  refine W_loop (fun m ρ w' => ∃ ρ' i, ρ = upd (upd (upd ρ' 0 (.slice p n c)) 1 (.func (.func g) #[] #[])) 5 (iV (i : Nat)) ∧ 1 ≤ i ∧ (1 ≤ n → i ≤ n) ∧ m = n - i ∧ Ext w w' ∧ ∀ j (h : j + 1 < l.length), j + 1 < i → cmp l[j] l[j+1] < 0) (n - 1)
    ⟨_, 1, u3 rfl rfl rfl, by omega, by omega, rfl, Mod.refl, fun j _ hj => by omega⟩ ?_
  rintro m _ w1 ⟨ρ, i, rfl, hi1, hin, rfl, hE1, hlt⟩
  refine W_seq ?_
  refine W_sr rfl (s_mv rfl (s_mv rfl (s_len E rfl rfl (s_lss rfl rfl (s_nil ?_)))))
  refine W_if rfl (fun hc => W_skip ?_) (fun hc => W_exit ?_)
  · have hc := of_decide_eq_true hc
    have hil : i < l.length := by omega
    obtain ⟨a, rfl, hrow⟩ := hp.some (by intro h0; have := flat_length chC 4 chC_len l; rw [h0] at this; simp at this; omega)
    refine W_seq (W_block ?_)
    have hr1 : ∀ w', Ext w w' → Row w' (a.add ((i - 1) * 4)) (chC l[i - 1]) := fun w' h => Ext.row h (hrow.at chC_len (by omega))
    have hr2 : ∀ w', Ext w w' → Row w' (a.add (i * 4)) (chC l[i]) := fun w' h => Ext.row h (hrow.at chC_len hil)
    refine W_qr (Ext w) orders rfl (by kernel_rfl) (Mod.drew hE1) (q_mv rfl (q_mv rfl (q_mv rfl (q_sub rfl rfl (by omega) (q_ia E rfl rfl rfl (show (i : Int) - 1 = ((i - 1 : Nat) : Int) by omega) (by omega) (q_lda E rfl rfl hr1 rfl (q_mv rfl (q_mv rfl (q_ia E rfl rfl rfl rfl (by omega) (q_lda E rfl rfl hr2 rfl (q_call rfl rfl (hg l[i] l[i] w).1 (fun w' hw' => (hg _ _ w').mono fun v w'' h => ⟨h.1, hw'.trans h.2⟩) (q_geq rfl rfl (q_nil ?_)))))))))))))
    intro w2 hE2
    refine W_if rfl (fun hd => ?_) (fun hd => W_skip ?_)
    · have hd := of_decide_eq_true hd
      refine W_sr rfl (s_as rfl (s_nil ?_))
      refine W_ret ⟨_, rfl, ?_, hE2⟩
      have : risingB cmp l = false := by
        rw [Bool.eq_false_iff]; intro h
        have := (risingB_iff cmp l).1 h (i - 1) (by omega)
        simp only [show i - 1 + 1 = i by omega] at this
        omega
      rw [this]; rfl
    · have hd := of_decide_eq_false hd
      refine W_reg rfl (s_mv rfl (s_add rfl rfl (by omega) (s_as rfl (s_nil ?_))))
      refine ⟨n - (i + 1), by omega, _, i + 1, u3 rfl rfl rfl, by omega, by omega, rfl, hE2, ?_⟩
      intro j h hj
      by_cases e : j + 1 = i
      · subst e; simp only [Nat.add_sub_cancel] at hd; omega
      · exact hlt j h (by omega)
  · have hc := of_decide_eq_false hc
    refine W_sr rfl (s_as rfl (s_nil ?_))
    refine W_ret ⟨_, rfl, ?_, hE1⟩
    rw [(risingB_iff cmp l).2 fun j h => hlt j h (by omega)]; rfl
theorem metric_rising_LigRule_c {p : Option Addr} {n c : Nat} {l : List Ru} {g : FuncId} {cmp : Ru → Ru → Int} {w : World} (hn : n = l.length) (hm : n ≤ 1000000) (hp : SlR w p (l.flatMap ruC))
    (hg : ∀ x y w, Ret Go.Proofs.Tryz.prog g #[ruV x, ruV y] w fun v w' => v = iV (cmp x y) ∧ Ext w w') :
    Ret Go.Proofs.Tryz.prog 87 #[.slice p n c, .func (.func g) #[] #[]] w fun v w' => v = .bool (risingB cmp l) ∧ Ext w w' := by
  refine enter Go.Proofs.Tryz.func87 rfl rfl rfl ?_
  refine W_sr rfl (s_as rfl (s_nil ?_))
  refine W_seq ?_
  refine W_sr rfl (s_as rfl (s_nil ?_))
  refine W_block ?_
  refine W_loop (fun m ρ w' => ∃ ρ' i, ρ = upd (upd (upd ρ' 0 (.slice p n c)) 1 (.func (.func g) #[] #[])) 5 (iV (i : Nat)) ∧ 1 ≤ i ∧ (1 ≤ n → i ≤ n) ∧ m = n - i ∧ Ext w w' ∧ ∀ j (h : j + 1 < l.length), j + 1 < i → cmp l[j] l[j+1] < 0) (n - 1)
    ⟨_, 1, u3 rfl rfl rfl, by omega, by omega, rfl, Mod.refl, fun j _ hj => by omega⟩ ?_
  rintro m _ w1 ⟨ρ, i, rfl, hi1, hin, rfl, hE1, hlt⟩
  refine W_seq ?_
  refine W_sr rfl (s_mv rfl (s_mv rfl (s_len E rfl rfl (s_lss rfl rfl (s_nil ?_)))))
  refine W_if rfl (fun hc => W_skip ?_) (fun hc => W_exit ?_)
  · have hc := of_decide_eq_true hc
    have hil : i < l.length := by omega
    obtain ⟨a, rfl, hrow⟩ := hp.some (by intro h0; have := flat_length ruC 4 ruC_len l; rw [h0] at this; simp at this; omega)
    refine W_seq (W_block ?_)
    have hr1 : ∀ w', Ext w w' → Row w' (a.add ((i - 1) * 4)) (ruC l[i - 1]) := fun w' h => Ext.row h (hrow.at ruC_len (by omega))
    have hr2 : ∀ w', Ext w w' → Row w' (a.add (i * 4)) (ruC l[i]) := fun w' h => Ext.row h (hrow.at ruC_len hil)
    refine W_qr (Ext w) orders rfl (by kernel_rfl) (Mod.drew hE1) (q_mv rfl (q_mv rfl (q_mv rfl (q_sub rfl rfl (by omega) (q_ia E rfl rfl rfl (show (i : Int) - 1 = ((i - 1 : Nat) : Int) by omega) (by omega) (q_lda E rfl rfl hr1 rfl (q_mv rfl (q_mv rfl (q_ia E rfl rfl rfl rfl (by omega) (q_lda E rfl rfl hr2 rfl (q_call rfl rfl (hg l[i] l[i] w).1 (fun w' hw' => (hg _ _ w').mono fun v w'' h => ⟨h.1, hw'.trans h.2⟩) (q_geq rfl rfl (q_nil ?_)))))))))))))
    intro w2 hE2
    refine W_if rfl (fun hd => ?_) (fun hd => W_skip ?_)
    · have hd := of_decide_eq_true hd
      refine W_sr rfl (s_as rfl (s_nil ?_))
      refine W_ret ⟨_, rfl, ?_, hE2⟩
      have : risingB cmp l = false := by
        rw [Bool.eq_false_iff]; intro h
        have := (risingB_iff cmp l).1 h (i - 1) (by omega)
        simp only [show i - 1 + 1 = i by omega] at this
        omega
      rw [this]; rfl
    · have hd := of_decide_eq_false hd
      refine W_reg rfl (s_mv rfl (s_add rfl rfl (by omega) (s_as rfl (s_nil ?_))))
      refine ⟨n - (i + 1), by omega, _, i + 1, u3 rfl rfl rfl, by omega, by omega, rfl, hE2, ?_⟩
      intro j h hj
      by_cases e : j + 1 = i
      · subst e; simp only [Nat.add_sub_cancel] at hd; omega
      · exact hlt j h (by omega)
  · have hc := of_decide_eq_false hc
    refine W_sr rfl (s_as rfl (s_nil ?_))
    refine W_ret ⟨_, rfl, ?_, hE1⟩
    rw [(risingB_iff cmp l).2 fun j h => hlt j h (by omega)]; rfl
def validRules (l : List Ru) : Bool := decide (l.length ≤ 500) && (l.all ruleB && risingB pairCmp l)
def validM (m : Me) : Bool := sizeB m.size && (decide (m.chars.length ≤ 256) && (m.chars.all charB && (risingB codeCmp m.chars && validRules m.rules)))
theorem metric_ValidRules_c {p : Option Addr} {n c : Nat} {l : List Ru} {w : World} (hn : n = l.length) (hm : n ≤ 1000000) (hp : SlR w p (l.flatMap ruC)) :
    Ret Go.Proofs.Tryz.prog 37 #[.slice p n c] w fun v w' => v = .bool (validRules l) ∧ Ext w w' := by
  refine enter Go.Proofs.Tryz.func37 rfl rfl rfl ?_
  refine W_sr rfl (s_as rfl (s_nil ?_))
  have call0 : ∀ w, SlR w p (l.flatMap ruC) → Ret Go.Proofs.Tryz.prog 51 #[.slice p n c, .func (.func 52) #[] #[]] w _ := fun w hp => metric_all_LigRule_c hn hm hp (fun _ _ => metric_isRule_c)
  by_cases h0 : (n : Int) ≤ 500
  case neg =>
    refine W_sr rfl (s_mv rfl (s_len E rfl rfl (s_cmp (c := false) rfl rfl (decide_eq_false h0) (s_mv rfl (s_g0 rfl (s_g0 rfl (s_pk rfl (s_mv rfl (s_g0 rfl (s_g0 rfl (s_pk rfl (s_as rfl (s_nil ?_)))))))))))))
    exact W_ret ⟨_, rfl, by simp only [validRules, show ¬ l.length ≤ 500 by omega, decide_false, Bool.false_and]; rfl, Mod.refl⟩
  have h0' : l.length ≤ 500 := by omega
  cases h1 : l.all ruleB
  · refine W_sr rfl (s_mv rfl (s_len E rfl rfl (s_cmp (c := true) rfl rfl (decide_eq_true h0) (s_mv rfl (s_g1 rfl (s_mv rfl (s_g1 rfl (s_callx rfl rfl (Ret.eqv (call0 _ hp) (congrArg Value.bool h1)) fun w1 hE1 => (s_pk rfl (s_mv rfl (s_g0 rfl (s_g0 rfl (s_pk rfl (s_as rfl (s_nil ?_)))))))))))))))
    exact W_ret ⟨_, rfl, by simp only [validRules, h0', h1, decide_true, Bool.false_and, Bool.true_and]; rfl, hE1⟩
  · refine W_sr rfl (s_mv rfl (s_len E rfl rfl (s_cmp (c := true) rfl rfl (decide_eq_true h0) (s_mv rfl (s_g1 rfl (s_mv rfl (s_g1 rfl (s_callx rfl rfl (Ret.eqv (call0 _ hp) (congrArg Value.bool h1)) fun w1 hE1 => (s_pk rfl (s_mv rfl (s_g1 rfl (s_mv rfl (s_g1 rfl (s_callx rfl rfl (metric_rising_LigRule_c hn hm (Ext.sl hE1 hp) (fun _ _ _ => metric_ComparePairs_c)) fun w2 hE2 => (s_pk rfl (s_as rfl (s_nil ?_)))))))))))))))))
    exact W_ret ⟨_, rfl, by simp only [validRules, h0', h1, decide_true, Bool.true_and]; rfl, hE1.trans hE2⟩
def meV (m : Me) (p q : Option Addr) (c d : Nat) : Value := .agg #[iV m.size, .slice p m.chars.length c, .slice q m.rules.length d]
/-- a metric's slices in memory -/
structure MeR (w : World) (m : Me) (p q : Option Addr) : Prop where
  ch : SlR w p (m.chars.flatMap chC)
  ru : SlR w q (m.rules.flatMap ruC)
  nch : m.chars.length ≤ 1000000
  nru : m.rules.length ≤ 1000000
theorem MeR.ext {w w' : World} {m : Me} {p q : Option Addr} (h : MeR w m p q) (hE : Ext w w') : MeR w' m p q := ⟨Ext.sl hE h.ch, Ext.sl hE h.ru, h.nch, h.nru⟩
theorem metric_Valid_c {m : Me} {p q : Option Addr} {c d : Nat} {w : World} (hm : MeR w m p q) : Ret Go.Proofs.Tryz.prog 13 #[meV m p q c d] w fun v w' => v = .bool (validM m) ∧ Ext w w' := by
  refine enter Go.Proofs.Tryz.func13 rfl rfl rfl ?_
  refine W_sr rfl (s_bx rfl (s_as rfl (s_nil ?_)))
  have callA : ∀ w, MeR w m p q → Ret Go.Proofs.Tryz.prog 33 #[.slice p m.chars.length c, .func (.func 34) #[] #[]] w _ := fun w hm => metric_all_CharMetric_c rfl hm.nch hm.ch (fun _ _ => metric_isChar_c)
  have callR : ∀ w, MeR w m p q → Ret Go.Proofs.Tryz.prog 35 #[.slice p m.chars.length c, .func (.func 36) #[] #[]] w _ := fun w hm => metric_rising_CharMetric_c rfl hm.nch hm.ch (fun _ _ _ => metric_compareCodes_c)
  cases h0 : sizeB m.size
  · refine W_sr rfl (s_fa E rfl rfl (s_ld E rfl rfl (bc0 rfl) (s_callp rfl rfl (Ret.eqv (metric_IsSize_c) (congrArg Value.bool h0)) (s_mv rfl (s_g0 rfl (s_g0 rfl (s_g0 rfl (s_g0 rfl (s_pk rfl (s_mv rfl (s_g0 rfl (s_g0 rfl (s_g0 rfl (s_pk rfl (s_mv rfl (s_g0 rfl (s_g0 rfl (s_g0 rfl (s_pk rfl (s_mv rfl (s_g0 rfl (s_g0 rfl (s_g0 rfl (s_pk rfl (s_as rfl (s_nil ?_))))))))))))))))))))))))))
    exact W_ret ⟨_, rfl, by simp only [validM, h0, Bool.false_and]; rfl, e1⟩
  by_cases h1 : ((m.chars.length : Nat) : Int) ≤ 256
  case neg =>
    refine W_sr rfl (s_fa E rfl rfl (s_ld E rfl rfl (bc0 rfl) (s_callp rfl rfl (Ret.eqv (metric_IsSize_c) (congrArg Value.bool h0)) (s_mv rfl (s_g1 rfl (s_fa E rfl rfl (s_g1 rfl (s_ld E rfl rfl (bc0 rfl) (s_g1 rfl (s_len E rfl rfl (s_g1 rfl (s_cmp (c := false) rfl rfl (decide_eq_false h1) (s_pk rfl (s_mv rfl (s_g0 rfl (s_g0 rfl (s_g0 rfl (s_pk rfl (s_mv rfl (s_g0 rfl (s_g0 rfl (s_g0 rfl (s_pk rfl (s_mv rfl (s_g0 rfl (s_g0 rfl (s_g0 rfl (s_pk rfl (s_as rfl (s_nil ?_))))))))))))))))))))))))))))))
    exact W_ret ⟨_, rfl, by simp only [validM, h0, show ¬ m.chars.length ≤ 256 by omega, decide_false, Bool.false_and, Bool.true_and]; rfl, e1⟩
  have h1' : m.chars.length ≤ 256 := by omega
  cases h2 : m.chars.all charB
  · refine W_sr rfl (s_fa E rfl rfl (s_ld E rfl rfl (bc0 rfl) (s_callp rfl rfl (Ret.eqv (metric_IsSize_c) (congrArg Value.bool h0)) (s_mv rfl (s_g1 rfl (s_fa E rfl rfl (s_g1 rfl (s_ld E rfl rfl (bc0 rfl) (s_g1 rfl (s_len E rfl rfl (s_g1 rfl (s_cmp (c := true) rfl rfl (decide_eq_true h1) (s_pk rfl (s_mv rfl (s_g1 rfl (s_fa E rfl rfl (s_g1 rfl (s_ld E rfl rfl (bc0 rfl) (s_g1 rfl (s_callx rfl rfl (Ret.eqv (callA _ (hm.ext e1)) (congrArg Value.bool h2)) fun w1 hE1 => (s_pk rfl (s_mv rfl (s_g0 rfl (s_g0 rfl (s_g0 rfl (s_pk rfl (s_mv rfl (s_g0 rfl (s_g0 rfl (s_g0 rfl (s_pk rfl (s_as rfl (s_nil ?_)))))))))))))))))))))))))))))))))
    exact W_ret ⟨_, rfl, by simp only [validM, h0, h1', h2, decide_true, Bool.false_and, Bool.true_and]; rfl, e1.trans hE1⟩
  cases h3 : risingB codeCmp m.chars
  · refine W_sr rfl (s_fa E rfl rfl (s_ld E rfl rfl (bc0 rfl) (s_callp rfl rfl (Ret.eqv (metric_IsSize_c) (congrArg Value.bool h0)) (s_mv rfl (s_g1 rfl (s_fa E rfl rfl (s_g1 rfl (s_ld E rfl rfl (bc0 rfl) (s_g1 rfl (s_len E rfl rfl (s_g1 rfl (s_cmp (c := true) rfl rfl (decide_eq_true h1) (s_pk rfl (s_mv rfl (s_g1 rfl (s_fa E rfl rfl (s_g1 rfl (s_ld E rfl rfl (bc0 rfl) (s_g1 rfl (s_callx rfl rfl (Ret.eqv (callA _ (hm.ext e1)) (congrArg Value.bool h2)) fun w1 hE1 => (s_pk rfl (s_mv rfl (s_g1 rfl (s_fa E rfl rfl (s_g1 rfl (s_ld E rfl rfl (Ext.cell hE1 (bc0 rfl)) (s_g1 rfl (s_callx rfl rfl (Ret.eqv (callR _ (hm.ext (e1.trans hE1))) (congrArg Value.bool h3)) fun w2 hE2 => (s_pk rfl (s_mv rfl (s_g0 rfl (s_g0 rfl (s_g0 rfl (s_pk rfl (s_as rfl (s_nil ?_))))))))))))))))))))))))))))))))))))
    exact W_ret ⟨_, rfl, by simp only [validM, h0, h1', h2, h3, decide_true, Bool.false_and, Bool.true_and]; rfl, (e1.trans hE1).trans hE2⟩
  refine W_sr rfl (s_fa E rfl rfl (s_ld E rfl rfl (bc0 rfl) (s_callp rfl rfl (Ret.eqv (metric_IsSize_c) (congrArg Value.bool h0)) (s_mv rfl (s_g1 rfl (s_fa E rfl rfl (s_g1 rfl (s_ld E rfl rfl (bc0 rfl) (s_g1 rfl (s_len E rfl rfl (s_g1 rfl (s_cmp (c := true) rfl rfl (decide_eq_true h1) (s_pk rfl (s_mv rfl (s_g1 rfl (s_fa E rfl rfl (s_g1 rfl (s_ld E rfl rfl (bc0 rfl) (s_g1 rfl (s_callx rfl rfl (Ret.eqv (callA _ (hm.ext e1)) (congrArg Value.bool h2)) fun w1 hE1 => (s_pk rfl (s_mv rfl (s_g1 rfl (s_fa E rfl rfl (s_g1 rfl (s_ld E rfl rfl (Ext.cell hE1 (bc0 rfl)) (s_g1 rfl (s_callx rfl rfl (Ret.eqv (callR _ (hm.ext (e1.trans hE1))) (congrArg Value.bool h3)) fun w2 hE2 => (s_pk rfl (s_mv rfl (s_g1 rfl (s_fa E rfl rfl (s_g1 rfl (s_ld E rfl rfl (Ext.cell (hE1.trans hE2) (bc0 rfl)) (s_g1 rfl (s_callx rfl rfl (metric_ValidRules_c rfl hm.nru ((hm.ext (e1.trans (hE1.trans hE2))).ru)) fun w3 hE3 => (s_pk rfl (s_as rfl (s_nil ?_)))))))))))))))))))))))))))))))))))))))
  exact W_ret ⟨_, rfl, by simp only [validM, h0, h1', h2, h3, decide_true, Bool.true_and]; rfl, (e1.trans hE1).trans (hE2.trans hE3)⟩
end Go.Proofs.YthfnijlgmjkedaaGreat
namespace Go.Proofs.YthfnijlgmjkedaaGreat
set_option maxRecDepth 100000
set_option linter.unusedVariables false
set_option linter.unusedSimpArgs false
open Go Go.Fx Go.Proofs.YthfnijlgmjkedaaGreat.Tab
abbrev bV (n : Int) : Value := .int .u8 n
def bytes2 (n : Int) : List Int := [n / 256 % 256, n % 256]
def bytes4 (n : Int) : List Int := [n / 16777216 % 256, n / 65536 % 256, n / 256 % 256, n % 256]
/-- a pointer to a struct of one slice of bytes; S: its blocks -/
def FileR (w : World) (S : Nat → Prop) (a : Nat) (bs : List Int) : Prop :=
  ∃ v ty, w.heap[a]? = some (.cells #[v] ty (0, 0)) ∧ OwnF w 5 1 v bs.length (bs.map bV) ∧ S a ∧ ∀ k, v.ownBlock = some k → S k ∧ k ≠ a
theorem own_head {w : World} {a : Nat} {v : Value} {ty : TypeId} {f : Nat × Nat} (h : w.heap[a]? = some (.cells #[v] ty f)) : w.cell? ⟨a, 0, none⟩ = some v := by simp [World.cell?, h]
theorem FileR.mod {w w' : World} {S M : Nat → Prop} {a : Nat} {bs : List Int} (h : FileR w S a bs) (hm : Mod M w w') (hd : ∀ k, S k → ¬ M k) : FileR w' S a bs := by
  obtain ⟨v, ty, h1, h2, h3, h4⟩ := h
  exact ⟨v, ty, hm.heap h1 (hd _ h3), OwnF.mod hm h2 (fun k hk => hd _ (h4 k hk).1), h3, h4⟩
/-- what a write makes of it -/
theorem FileR.write {w w2 : World} {S : Nat → Prop} {a : Nat} {bs news : List Int} {v v' : Value} {ty : TypeId} {o : Obj} (h1 : w.heap[a]? = some (.cells #[v] ty (0, 0))) (h3 : S a) (h4 : ∀ k, v.ownBlock = some k → S k ∧ k ≠ a)
    (hown' : Own w2 5 1 v' (bs.length + news.length) (bs.map bV ++ news.map bV)) (hmod : Mod (fun k => v.ownBlock = some k) (w.alloc o) w2) (hon : OldOrNew (w.alloc o) v v') :
    w2.heap[a]? = some (.cells #[v] ty (0, 0)) ∧ FileR (w2.setRow a #[v']) (fun k => S k ∨ w.heap.size ≤ k ∧ k < (w2.setRow a #[v']).heap.size) a (bs ++ news) ∧ Mod S w (w2.setRow a #[v']) := by
  have ha : a < w.heap.size := (Array.getElem?_eq_some_iff.1 h1).1
  have hh : w2.heap[a]? = some (.cells #[v] ty (0, 0)) := hmod.heap (Ext.heap e1 h1) (fun he => (h4 a he).2 rfl)
  have hne : ∀ k, v'.ownBlock = some k → k ≠ a ∧ (S k ∨ w.heap.size ≤ k ∧ k < (w2.setRow a #[v']).heap.size) := by
    intro k hk
    rcases hon with h | ⟨j, hj, hle⟩
    · rw [h] at hk; exact ⟨(h4 k hk).2, .inl (h4 k hk).1⟩
    · rw [hj] at hk; cases hk
      simp at hle
      have hlt := Own.lt hown' hj
      exact ⟨by omega, .inr ⟨by omega, by simpa using hlt⟩⟩
  refine ⟨hh, ⟨v', ty, setRow_heap w2 a _ _ ty (0, 0) hh, ?_, .inl h3, fun k hk => ⟨(hne k hk).2, (hne k hk).1⟩⟩, ?_⟩
  · rw [List.length_append, List.map_append]
    exact .inl <| Mod.owns (M := fun k => k = a) (setRow_mod rfl) hown' (fun k hk => (hne k hk).1)
  · exact (Mod.of_ext e1).trans ((hmod.mono fun k _ hk => (h4 k hk).1).trans (setRow_mod h3))
section
variable {w : World} {S : Nat → Prop} {a : Nat} {bs : List Int} {n : Int}
theorem metric_File_One_c (hf : FileR w S a bs) (hl : bs.length ≤ 1000000) :
    Ret Go.Proofs.Tryz.prog 75 #[.pointer (some ⟨a, 0, none⟩), iV n] w fun v w' => v = .tuple #[] ∧ FileR w' (fun k => S k ∨ w.heap.size ≤ k ∧ k < w'.heap.size) a (bs ++ [n % 256]) ∧ Mod S w w' := by
  obtain ⟨v, ty, h1, h2, h3, h4⟩ := hf
  refine enter Go.Proofs.Tryz.func75 rfl rfl rfl ?_
  refine W_reg rfl (s_mv rfl (s_mv rfl (s_nc rfl (s_fa E rfl rfl (s_ld E rfl rfl (own_head h1) (s_mv rfl (s_cvb E rfl rfl rfl (s_bs E rfl rfl rfl rfl rfl (cells := #[bV (n % 256)]) (by kernel_rfl) (s_apF E rfl rfl rfl rfl (OwnF.mod e1 h2 (fun _ _ h => h)) rfl rfl bcr rfl rfl rfl (by omega) fun v' w2 hown' hmod hon => (s_nc rfl (s_fa E rfl rfl (s_st1 E rfl rfl rfl rfl hown'.one (FileR.write (news := [n % 256]) h1 h3 h4 hown' hmod hon).1 Nat.zero_lt_one (s_nil ?_)))))))))))))
  exact ⟨_, rfl, rfl, (FileR.write (news := [n % 256]) h1 h3 h4 hown' hmod hon).2⟩
theorem metric_File_Two_c (hf : FileR w S a bs) (hl : bs.length ≤ 1000000) :
    Ret Go.Proofs.Tryz.prog 74 #[.pointer (some ⟨a, 0, none⟩), iV n] w fun v w' => v = .tuple #[] ∧ FileR w' (fun k => S k ∨ w.heap.size ≤ k ∧ k < w'.heap.size) a (bs ++ bytes2 n) ∧ Mod S w w' := by
  obtain ⟨v, ty, h1, h2, h3, h4⟩ := hf
  refine enter Go.Proofs.Tryz.func74 rfl rfl rfl ?_
  refine W_reg rfl (s_mv rfl (s_mv rfl (s_nc rfl (s_fa E rfl rfl (s_ld E rfl rfl (own_head h1) (s_mv rfl (s_shk rfl rfl (by decide) (c := 256) (by decide) (by decide) (s_cvb E rfl rfl rfl (s_mv rfl (s_cvb E rfl rfl rfl (s_bs E rfl rfl rfl rfl rfl (cells := #[bV (n / 256 % 256), bV (n % 256)]) (by kernel_rfl) (s_apF E rfl rfl rfl rfl (OwnF.mod e1 h2 (fun _ _ h => h)) rfl rfl bcr rfl rfl rfl (by omega) fun v' w2 hown' hmod hon => (s_nc rfl (s_fa E rfl rfl (s_st1 E rfl rfl rfl rfl hown'.one (FileR.write (news := bytes2 n) h1 h3 h4 hown' hmod hon).1 Nat.zero_lt_one (s_nil ?_))))))))))))))))
  exact ⟨_, rfl, rfl, (FileR.write (news := bytes2 n) h1 h3 h4 hown' hmod hon).2⟩
theorem metric_File_Four_c (hf : FileR w S a bs) (hl : bs.length ≤ 1000000) :
    Ret Go.Proofs.Tryz.prog 69 #[.pointer (some ⟨a, 0, none⟩), iV n] w fun v w' => v = .tuple #[] ∧ FileR w' (fun k => S k ∨ w.heap.size ≤ k ∧ k < w'.heap.size) a (bs ++ bytes4 n) ∧ Mod S w w' := by
  obtain ⟨v, ty, h1, h2, h3, h4⟩ := hf
  refine enter Go.Proofs.Tryz.func69 rfl rfl rfl ?_
  refine W_reg rfl (s_mv rfl (s_mv rfl (s_nc rfl (s_fa E rfl rfl (s_ld E rfl rfl (own_head h1) (s_mv rfl (s_shk rfl rfl (by decide) (c := 16777216) (by decide) (by decide) (s_cvb E rfl rfl rfl (s_mv rfl (s_shk rfl rfl (by decide) (c := 65536) (by decide) (by decide) (s_cvb E rfl rfl rfl (s_mv rfl (s_shk rfl rfl (by decide) (c := 256) (by decide) (by decide) (s_cvb E rfl rfl rfl (s_mv rfl (s_cvb E rfl rfl rfl (s_bs E rfl rfl rfl rfl rfl (cells := #[bV (n / 16777216 % 256), bV (n / 65536 % 256), bV (n / 256 % 256), bV (n % 256)]) (by kernel_rfl) (s_apF E rfl rfl rfl rfl (OwnF.mod e1 h2 (fun _ _ h => h)) rfl rfl bcr rfl rfl rfl (by omega) fun v' w2 hown' hmod hon => (s_nc rfl (s_fa E rfl rfl (s_st1 E rfl rfl rfl rfl hown'.one (FileR.write (news := bytes4 n) h1 h3 h4 hown' hmod hon).1 Nat.zero_lt_one (s_nil ?_))))))))))))))))))))))
  exact ⟨_, rfl, rfl, (FileR.write (news := bytes4 n) h1 h3 h4 hown' hmod hon).2⟩
end
end Go.Proofs.YthfnijlgmjkedaaGreat
namespace Go.Proofs.YthfnijlgmjkedaaGreat
set_option maxRecDepth 100000
set_option linter.unusedVariables false
set_option linter.unusedSimpArgs false
open Go Go.Fx Go.Proofs.YthfnijlgmjkedaaGreat.Tab
def sumFrom : Nat → Int → List Int → Int
  | _, s, [] => s
  | i, s, c :: l => sumFrom (i + 1) ((s + (i + 1) * c) % 4294967296) l
def sumB (l : List Int) : Int := sumFrom 0 0 l
theorem sumFrom_bd (l : List Int) : ∀ (i : Nat) (s : Int), 0 ≤ s ∧ s < 4294967296 → 0 ≤ sumFrom i s l ∧ sumFrom i s l < 4294967296 := by
  induction l with
  | nil => intro i s h; exact h
  | cons c l ih => intro i s h; exact ih _ _ ⟨Int.emod_nonneg _ (by decide), Int.emod_lt_of_pos _ (by decide)⟩
theorem sum_step (s c : Int) (i : Int) : (s + ((i + 1) % 4294967296 * (c % 4294967296)) % 4294967296) % 4294967296 = (s + (i + 1) * c) % 4294967296 := by
  rw [← Int.mul_emod, Int.add_emod, Int.emod_emod_of_dvd _ (Int.dvd_refl _), ← Int.add_emod]
theorem sl_bytes {w : World} {p : Option Addr} {l : List Int} (hp : SlR w p (l.map bV)) {i : Nat} (hi : i < l.length) : ∃ a, p = some a ∧ w.cell? (a.add (i * 1)) = some (bV l[i]) := by
  obtain ⟨a, rfl, h⟩ := hp.some (by intro h0; simp at h0; subst h0; simp at hi)
  exact ⟨a, rfl, by rw [Nat.mul_one]; exact h i _ (by simp [hi])⟩
theorem metric_Sum_c {p : Option Addr} {n c : Nat} {l : List Int} {w : World} (hn : n = l.length) (hm : n ≤ 1000100) (hp : SlR w p (l.map bV)) :
    Ret Go.Proofs.Tryz.prog 102 #[.slice p n c] w fun v w' => v = iV (sumB l) ∧ w' = w := by
  refine enter Go.Proofs.Tryz.func102 rfl rfl rfl ?_
  refine W_sr rfl (s_as rfl (s_nil ?_))
  refine W_sr rfl (s_as rfl (s_nil ?_))
  refine W_seq ?_
  refine W_sr rfl (s_mv rfl (s_len E rfl rfl (s_mv rfl (s_nil ?_))))
  refine W_block ?_
  refine W_loop (fun m ρ w' => ∃ ρ' i s, ρ = upd (upd (upd (upd ρ' 3 (.int .u32 s)) 6 (.slice p n c)) 7 (iV n)) 8 (iV (i : Nat)) ∧ w' = w ∧ i ≤ n ∧ m = n - i ∧ sumB l = sumFrom i s (l.drop i) ∧ 0 ≤ s ∧ s < 4294967296) n
    ⟨_, 0, 0, u4 rfl rfl rfl rfl, rfl, by omega, by omega, rfl, by decide, by decide⟩ ?_
  rintro m _ _ ⟨ρ, i, s, rfl, rfl, hi, rfl, ho, hs0, hs1⟩
  refine W_sr rfl (s_lss rfl rfl (s_nil ?_))
  refine W_seq ?_
  refine W_if rfl (fun hc => W_skip ?_) (fun hc => W_exit ?_)
  · have hc := of_decide_eq_true hc
    have hil : i < l.length := by omega
    obtain ⟨a, rfl, hcell⟩ := sl_bytes hp hil
    refine W_seq (W_block ?_)
    refine W_sr rfl (s_mv rfl (s_ia E rfl rfl rfl rfl (by omega) (s_ld E rfl rfl hcell (s_as rfl (s_as rfl (s_nil ?_))))))
    refine W_reg rfl (s_mv rfl (s_mv rfl (s_add rfl rfl (by omega) (s_cv E rfl rfl rfl (s_mv rfl (s_cv E rfl rfl rfl (s_mulw rfl rfl (s_addw rfl rfl (s_as rfl (s_nil ?_))))))))))
    refine W_reg rfl (s_add rfl rfl (by omega) (s_mv rfl (s_nil ?_)))
    refine ⟨n - (i + 1), by omega, _, i + 1, _, u4 rfl rfl rfl rfl, rfl, by omega, rfl, ?_, ?_⟩
    · rw [ho, List.drop_eq_getElem_cons hil, sumFrom]
      congr 1
      exact (sum_step s l[i] i).symm
    · show 0 ≤ _ % 4294967296 ∧ _ % 4294967296 < 4294967296
      exact ⟨Int.emod_nonneg _ (by decide), Int.emod_lt_of_pos _ (by decide)⟩
  · have hc := of_decide_eq_false hc
    refine W_sr rfl (s_mv rfl (s_cv E rfl rfl rfl (s_as rfl (s_nil ?_))))
    refine W_ret ⟨_, rfl, ?_, rfl⟩
    rw [ho, List.drop_of_length_le (by omega)]
    show iV (IntKind.i64.wrap s) = iV s
    rw [wrap64_in (by omega) (by omega)]
theorem metric_File_Finish_c {w : World} {S : Nat → Prop} {a : Nat} {bs : List Int} (hf : FileR w S a bs) (hl : bs.length ≤ 1000000) :
    Ret Go.Proofs.Tryz.prog 77 #[.pointer (some ⟨a, 0, none⟩)] w fun v w' => (∃ p c, v = .slice p (bs.length + 4) c ∧ bs.length + 4 ≤ c ∧ SlR w' p ((bs ++ bytes4 (sumB bs)).map bV) ∧ OwnF w' 5 1 v (bs.length + 4) ((bs ++ bytes4 (sumB bs)).map bV) ∧ ∀ k, v.ownBlock = some k → S k ∨ w.heap.size ≤ k) ∧ Mod S w w' := by
  obtain ⟨v, ty, h1, h2, h3, h4⟩ := id hf
  obtain ⟨p, c, rfl, hsl, _⟩ := h2.form
  refine enter Go.Proofs.Tryz.func77 rfl rfl rfl ?_
  refine W_sr rfl (s_as rfl (s_nil ?_))
  refine W_sr rfl (s_mv rfl (s_mv rfl (s_nc rfl (s_fa E rfl rfl (s_ld E rfl rfl (own_head h1) (s_callp rfl rfl (metric_Sum_c rfl (by omega) hsl) (s_callx rfl rfl (metric_File_Four_c hf hl) fun w2 h2 => (s_nil ?_))))))))
  obtain ⟨⟨v', ty', k1, k2, k3, k4⟩, hmod⟩ := h2
  refine W_sr rfl (s_mv rfl (s_nc rfl (s_fa E rfl rfl (s_ld E rfl rfl (own_head k1) (s_as rfl (s_nil ?_))))))
  obtain ⟨p', c', rfl, hsl', hle⟩ := k2.form
  have hlen : (bs ++ bytes4 (sumB bs)).length = bs.length + 4 := by simp [bytes4]
  rw [hlen] at k2 hle
  refine W_ret ⟨_, rfl, ⟨p', c', ?_, hle, hsl', ?_, ?_⟩, hmod⟩
  · show Value.slice p' (bs ++ bytes4 (sumB bs)).length c' = _
    rw [hlen]
  · show OwnF _ _ 1 (Value.slice p' (bs ++ bytes4 (sumB bs)).length c') _ _
    rw [hlen]; exact k2
  · intro k hk
    rcases (k4 k hk).1 with h | h
    · exact .inl h
    · exact .inr h.1
end Go.Proofs.YthfnijlgmjkedaaGreat
namespace Go.Proofs.YthfnijlgmjkedaaGreat
set_option maxRecDepth 100000
set_option linter.unusedVariables false
set_option linter.unusedSimpArgs false
open Go Go.Fx Go.Proofs.YthfnijlgmjkedaaGreat.Tab Go.RowKit
def leI (x y : Int) : Bool := decide (x ≤ y)
theorem Own.cut {w : World} {e : TypeId} {sz g c n : Nat} {xs : List Value} (h : Own w e sz (.slice (some ⟨g, 0, none⟩) n c) n xs) {k : Nat} (hk : k ≤ n) : Own w e sz (.slice (some ⟨g, 0, none⟩) k c) k (xs.take (k * sz)) := by
  obtain ⟨hl, h⟩ := h
  have hle : k * sz ≤ n * sz := Nat.mul_le_mul_right _ hk
  refine ⟨by rw [List.length_take]; omega, ?_⟩
  rcases h with ⟨h, _⟩ | ⟨g', cap, cur, h, hb, hg, hnc, hcm, hcs, ht⟩
  · cases h
  · cases h
    exact .inr ⟨g, c, cur, rfl, hb, hg, by omega, hcm, hcs, by rw [← ht, List.take_take, Nat.min_eq_left hle]⟩
theorem ent_sort : Ent Go.Proofs.Tryz.prog 98 := ⟨_, Go.Proofs.Tryz.func98, rfl, rfl⟩
theorem ent_compact : Ent Go.Proofs.Tryz.prog 99 := ⟨_, Go.Proofs.Tryz.func99, rfl, rfl⟩
theorem ent_search : Ent Go.Proofs.Tryz.prog 76 := ⟨_, Go.Proofs.Tryz.func76, rfl, rfl⟩
theorem slices_Sort_int_c {w : World} {v : Value} {n : Nat} {l : List Int} (h : Own w 3 1 v n (l.map iV)) (hn : n = l.length) (hm : n ≤ 1000000) :
    Ret Go.Proofs.Tryz.prog 98 #[v] w fun r w' => r = .tuple #[] ∧ Own w' 3 1 v n ((l.mergeSort leI).map iV) ∧ Mod (fun k => v.ownBlock = some k) w w' := by
  refine ⟨ent_sort, ?_⟩
  obtain ⟨hl, h'⟩ := id h
  rcases h' with ⟨rfl, rfl⟩ | ⟨g, cap, cur, rfl, hb, hg, hnc, hcm, hcs, ht⟩
  · refine Calls.mono (Go.Proofs.Tryz.slices_Sort_int_none none 0 w) fun e w' ⟨he, hw⟩ => ⟨_, he, rfl, ?_, ?_⟩
    · have : l = [] := List.eq_nil_of_length_eq_zero hn.symm
      subst this; subst hw; simpa using h
    · subst hw; exact Mod.refl
  · have hg' : w.heap[g]? = some (.cells cur 3 (0, 0)) := hg
    have ht' : cur.toList.take l.length = l.map (Value.int .i64) := by rw [← ht, hn, Nat.mul_one]
    have := Go.Proofs.Tryz.slices_Sort_int g 0 cap l w (holds_of_blockI hg' ht') (Array.getElem?_eq_some_iff.1 hg).1 (by omega)
    rw [← hn] at this
    refine Calls.mono this fun e w' ⟨he, q, os, hw⟩ => ⟨_, he, rfl, ?_, ?_⟩
    · subst hw
      have := ownsRow_sortedI (w := w) (base := 0) (g := g) (cap := cap) (n := q) (e := 3) (os := os) (cur := cur) (ss := l) (ts := l.mergeSort leI) (by simp) (Nat.zero_le _) hg' (by omega) hcm (by omega)
      rw [← hn] at this
      exact this
    · subst hw
      exact Mod.grown (grownBy_sortedI _) (fun k hk => hk)
theorem compact_le (l : List Int) : (Lib.compact l).length ≤ l.length := by
  unfold Lib.compact
  have : ∀ m, m ≤ l.toArray.size → (Lib.compactUpTo l.toArray m).length ≤ m := by
    intro m
    induction m with
    | zero => intro _; simp [Lib.compactUpTo]
    | succ m ih =>
      intro hm
      rw [Lib.compactUpTo_succ, List.length_append]
      have := ih (by omega)
      split <;> simp <;> omega
  simpa using this l.length (by simp)
theorem slices_Compact_int_c {w : World} {v : Value} {n : Nat} {l : List Int} (h : Own w 3 1 v n (l.map iV)) (hn : n = l.length) (hm : n ≤ 1000000) :
    Ret Go.Proofs.Tryz.prog 99 #[v] w fun r w' => Own w' 3 1 r (Lib.compact l).length ((Lib.compact l).map iV) ∧ r.ownBlock = v.ownBlock ∧ Mod (fun k => v.ownBlock = some k) w w' := by
  refine ⟨ent_compact, ?_⟩
  obtain ⟨hl, h'⟩ := id h
  rcases h' with ⟨rfl, rfl⟩ | ⟨g, cap, cur, rfl, hb, hg, hnc, hcm, hcs, ht⟩
  · refine Calls.mono (Go.Proofs.Tryz.slices_Compact_int_empty none 0 w) fun e w' ⟨he, hw⟩ => ⟨_, he, ?_, rfl, ?_⟩
    · have : l = [] := List.eq_nil_of_length_eq_zero hn.symm
      subst this; subst hw; simpa [Lib.compact, Lib.compactUpTo] using h
    · subst hw; exact Mod.refl
  · have ht' : cur.toList.take l.length = l.map (Value.int .i64) := by rw [← ht, hn, Nat.mul_one]
    have := Go.Proofs.Tryz.slices_Compact_int g 0 cap l w (holds_of_blockI hg ht') (by omega) (by omega)
    rw [← hn] at this
    have hle := compact_le l
    refine Calls.mono this fun e w' ⟨he, q, hw⟩ => ⟨_, he, ?_, rfl, ?_⟩
    · have hts : (Lib.compact l ++ List.replicate (n - (Lib.compact l).length) 0).length = l.length := by simp; omega
      have h1 := ownsRow_sortedI (w := w) (base := 0) (g := g) (cap := cap) (n := q) (e := 3) (os := #[]) (cur := cur) (ss := l) (ts := Lib.compact l ++ List.replicate (n - (Lib.compact l).length) 0) hts (Nat.zero_le _) hg (by omega) hcm (by omega)
      rw [Sort.grow_empty, ← hw, ← hn] at h1
      have h2 := Own.cut h1 (k := (Lib.compact l).length) (by omega)
      rw [Nat.mul_one, ← List.map_take, List.take_left] at h2
      exact h2
    · have h1 := grownBy_sortedI (w := w) (g := g) (n := q) (os := #[]) (Lib.compact l ++ List.replicate (n - (Lib.compact l).length) 0).toArray
      rw [Sort.grow_empty, ← hw] at h1
      exact Mod.grown h1 (fun k hk => hk)
end Go.Proofs.YthfnijlgmjkedaaGreat
namespace Go.Proofs.YthfnijlgmjkedaaGreat
set_option maxRecDepth 100000
set_option linter.unusedVariables false
set_option linter.unusedSimpArgs false
open Go Go.Fx Go.Proofs.YthfnijlgmjkedaaGreat.Tab Go.RowKit
theorem metric_width_c {x : Ch} {w : World} : Ret Go.Proofs.Tryz.prog 70 #[chV x] w fun v w' => v = iV x.width ∧ Ext w w' := by
  refine enter Go.Proofs.Tryz.func70 rfl rfl rfl ?_
  refine W_sr rfl (s_bx rfl (s_as rfl (s_nil ?_)))
  refine W_sr rfl (s_fa E rfl rfl (s_ld E rfl rfl (bc0 rfl) (s_as rfl (s_nil ?_))))
  exact W_ret ⟨_, rfl, rfl, e1⟩
theorem metric_height_c {x : Ch} {w : World} : Ret Go.Proofs.Tryz.prog 71 #[chV x] w fun v w' => v = iV x.height ∧ Ext w w' := by
  refine enter Go.Proofs.Tryz.func71 rfl rfl rfl ?_
  refine W_sr rfl (s_bx rfl (s_as rfl (s_nil ?_)))
  refine W_sr rfl (s_fa E rfl rfl (s_ld E rfl rfl (bc0 rfl) (s_as rfl (s_nil ?_))))
  exact W_ret ⟨_, rfl, rfl, e1⟩
theorem metric_depth_c {x : Ch} {w : World} : Ret Go.Proofs.Tryz.prog 72 #[chV x] w fun v w' => v = iV x.depth ∧ Ext w w' := by
  refine enter Go.Proofs.Tryz.func72 rfl rfl rfl ?_
  refine W_sr rfl (s_bx rfl (s_as rfl (s_nil ?_)))
  refine W_sr rfl (s_fa E rfl rfl (s_ld E rfl rfl (bc0 rfl) (s_as rfl (s_nil ?_))))
  exact W_ret ⟨_, rfl, rfl, e1⟩
def tabL (f : Ch → Int) (l : List Ch) : List Int := Lib.compact ((l.map f).mergeSort leI)
theorem tabL_len (f : Ch → Int) (l : List Ch) : (tabL f l).length ≤ l.length := by
  have := compact_le ((l.map f).mergeSort leI); simpa [tabL] using this
/-- the index of a number in a sorted table -/
def idxT (t : List Int) (n : Int) : Int := (t.countP (· < n) : Nat)
theorem slices_BinarySearch_int_c {w : World} {v : Value} {n : Nat} {l : List Int} {x : Int} (h : Own w 3 1 v n (l.map iV)) (hn : n = l.length) (hm : n ≤ 1000000) (hs : l.Pairwise (· ≤ ·)) :
    Ret Go.Proofs.Tryz.prog 76 #[v, iV x] w fun r w' => r = .tuple #[iV (idxT l x), .bool (l.contains x)] ∧ Ext w w' := by
  refine ⟨ent_search, ?_⟩
  obtain ⟨hl, h'⟩ := id h
  rcases h' with ⟨rfl, rfl⟩ | ⟨g, cap, cur, rfl, hb, hg, hnc, hcm, hcs, ht⟩
  · refine Calls.mono (Go.Proofs.Tryz.slices_BinarySearch_int_empty none 0 x w) fun e w' ⟨he, hw⟩ => ⟨_, he, ?_, ?_⟩
    · have : l = [] := List.eq_nil_of_length_eq_zero hn.symm
      subst this; rfl
    · subst hw; exact Mod.refl
  · subst hn
    have hcell : ∀ j, j < l.length → w.cell? ⟨g, 0 + j, none⟩ = some (.int .i64 (l.getD j 0)) := by
      intro j hj
      have h1 : (cur.toList.take (l.length * 1))[j]? = (l.map iV)[j]? := by rw [ht]
      rw [List.getElem?_take_of_lt (by omega)] at h1
      unfold World.cell?
      simp only [hg, Nat.zero_add]
      simp only [Array.getElem?_toList] at h1
      simp [h1, hj]
    have := Go.Proofs.Tryz.slices_BinarySearch_int g 0 l.length cap l x w (Nat.le_refl _) (by omega) hcell (by simpa using hs)
    rw [List.take_length] at this
    refine Calls.mono this fun e w' ⟨he, q, hw⟩ => ⟨_, he, rfl, ?_⟩
    subst hw
    exact ⟨rfl, rfl, rfl, Nat.le_refl _, fun _ _ _ => rfl⟩
theorem map_take_succ {α β : Type} (f : α → β) (l : List α) (i : Nat) (h : i < l.length) : (l.take (i + 1)).map f = (l.take i).map f ++ [f l[i]] := by
  rw [List.take_succ_eq_append_getElem h, List.map_append]; rfl
theorem metric_table_c {m : Me} {p q : Option Addr} {c d : Nat} {g : FuncId} {f : Ch → Int} {w : World} (hm : MeR w m p q) (hb : m.chars.length ≤ 1000)
    (hg : ∀ x w, Ret Go.Proofs.Tryz.prog g #[chV x] w fun v w' => v = iV (f x) ∧ Ext w w') :
    Ret Go.Proofs.Tryz.prog 73 #[meV m p q c d, .func (.func g) #[] #[]] w fun v w' => Own w' 3 1 v (tabL f m.chars).length ((tabL f m.chars).map iV) ∧ (∀ k, v.ownBlock = some k → w.heap.size ≤ k) ∧ Ext w w' := by
  refine enter Go.Proofs.Tryz.func73 rfl rfl rfl ?_
  refine W_sr rfl (s_bx rfl (s_as rfl (s_nil ?_)))
  refine W_sr rfl (s_as rfl (s_nil ?_))
  refine W_seq ?_
  refine W_sr rfl (s_fa E rfl rfl (s_ld E rfl rfl (bc0 rfl) (s_len E rfl rfl (s_mv rfl (s_nil ?_)))))
  refine W_block ?_
  refine W_loop (fun n ρ w' => ∃ ρ' i v, ρ = upd (upd (upd (upd (upd ρ' 1 (.func (.func g) #[] #[])) 5 v) 9 (.slice p m.chars.length c)) 10 (iV m.chars.length)) 11 (iV (i : Nat)) ∧ Ext w w' ∧ i ≤ m.chars.length ∧ n = m.chars.length - i ∧
      Own w' 3 1 v i (((m.chars.take i).map f).map iV) ∧ ∀ k, v.ownBlock = some k → w.heap.size ≤ k) m.chars.length
    ⟨_, 0, .slice none 0 0, u5 rfl rfl rfl rfl rfl, e1, by omega, by omega, Own.nil _ _ _, by simp [Value.ownBlock]⟩ ?_
  rintro n _ w1 ⟨ρ, i, v, rfl, hE1, hi, rfl, hown, hfr⟩
  refine W_sr rfl (s_lss rfl rfl (s_nil ?_))
  refine W_seq ?_
  refine W_if rfl (fun hc => W_skip ?_) (fun hc => W_exit ?_)
  · have hc := of_decide_eq_true hc
    have hil : i < m.chars.length := by omega
    obtain ⟨a, rfl, hrow⟩ := hm.ch.some (by intro h0; have := flat_length chC 4 chC_len m.chars; rw [h0] at this; simp at this; omega)
    refine W_seq (W_block ?_)
    refine W_sr rfl (s_ia E rfl rfl rfl rfl hil (s_lda E rfl rfl (Ext.row hE1 (hrow.at chC_len hil)) rfl (s_alst E rfl rfl rfl rfl rfl fun w2 hE2 _ hh2 => (s_nil ?_))))
    refine W_reg rfl (s_mv rfl (s_mv rfl (s_lda E rfl rfl (row_heap hh2) rfl (s_callx rfl rfl (hg m.chars[i] _) fun w3 hE3 => (s_bs E rfl rfl rfl rfl rfl (cells := #[iV (f m.chars[i])]) (by kernel_rfl) (s_ap E rfl rfl rfl rfl (Ext.owns e1 (Ext.owns hE3 (Ext.owns hE2 hown))) rfl rfl bcr rfl rfl (by omega) fun v' w4 hown' hmod hon => (s_as rfl (s_nil ?_))))))))
    refine W_reg rfl (s_add rfl rfl (by omega) (s_mv rfl (s_nil ?_)))
    refine ⟨m.chars.length - (i + 1), by omega, _, i + 1, v', u5 rfl rfl rfl rfl rfl, Ext.thenMod (hE1.trans (hE2.trans (hE3.trans e1))) hmod (fun k hk he => by have := hfr k he; omega), by omega, rfl, ?_, ?_⟩
    · rw [map_take_succ f _ _ hil, List.map_append]; exact hown'
    · intro k hk
      rcases hon with h | ⟨j, hj, hle⟩
      · exact hfr k (by rw [← h]; exact hk)
      · rw [hj] at hk; cases hk
        have := (hE1.trans (hE2.trans (hE3.trans (e1 (o := .cells #[iV (f m.chars[i])] 3))))).size
        simp at hle
        have h1 := hE1.size; have h2 := hE2.size; have h3 := hE3.size
        omega
  · have hc := of_decide_eq_false hc
    have hie : i = m.chars.length := by omega
    subst hie
    rw [List.take_length] at hown
    refine W_sr rfl (s_mv rfl (s_callx rfl rfl (slices_Sort_int_c hown (by simp) (by omega)) fun w2 h2 => (s_nil ?_)))
    obtain ⟨hown2, hmod2⟩ := h2
    refine W_sr rfl (s_mv rfl (s_call rfl rfl (slices_Compact_int_c hown2 (by simp) (by omega)) fun r w3 h3 => (s_as rfl (s_nil ?_))))
    obtain ⟨hown3, hbl, hmod3⟩ := h3
    refine W_ret ⟨_, rfl, hown3, fun k hk => hfr k ((show r.ownBlock = v.ownBlock from hbl).symm.trans hk), ?_⟩
    exact Ext.thenMod (Ext.thenMod hE1 hmod2 (fun k hk he => by have := hfr k he; omega)) hmod3 (fun k hk he => by have := hfr k he; omega)
end Go.Proofs.YthfnijlgmjkedaaGreat
namespace Go.Proofs.YthfnijlgmjkedaaGreat
set_option maxRecDepth 100000
set_option linter.unusedVariables false
set_option linter.unusedSimpArgs false
open Go Go.Fx Go.Proofs.YthfnijlgmjkedaaGreat.Tab Go.RowKit
/-! ## the file of a metric, as bytes -/
def magicB : List Int := [70, 77, 69, 84]
def dimF : Nat → Ch → Int
  | 0 => Ch.width
  | 1 => Ch.height
  | _ => Ch.depth
def tabs (m : Me) (j : Nat) : List Int := tabL (dimF j) m.chars
def tabBytes (t : List Int) : List Int := bytes2 t.length ++ t.flatMap bytes4
def dimB (m : Me) (c : Ch) (j : Nat) : List Int := bytes2 (idxT (tabs m j) (dimF j c))
def chBytes (m : Me) (c : Ch) : List Int := [c.code % 256] ++ (List.range 3).flatMap (dimB m c)
def ruBytes (r : Ru) : List Int := [r.first % 256] ++ [r.next % 256] ++ [r.op % 256] ++ bytes4 r.value
def headB (m : Me) : List Int := magicB ++ bytes4 m.size
def tabsB (m : Me) (i : Nat) : List Int := (List.range i).flatMap fun j => tabBytes (tabs m j)
def bodyM (m : Me) : List Int := headB m ++ tabsB m 3 ++ bytes2 m.chars.length ++ m.chars.flatMap (chBytes m) ++ bytes2 m.rules.length ++ m.rules.flatMap ruBytes
def packM (m : Me) : List Int := bodyM m ++ bytes4 (sumB (bodyM m))
theorem flat_len_le {α : Type} (f : α → List Int) (k : Nat) (hf : ∀ x, (f x).length ≤ k) (l : List α) : (l.flatMap f).length ≤ l.length * k := by
  induction l with
  | nil => simp
  | cons x l ih => have := hf x; simp only [List.flatMap_cons, List.length_append, List.length_cons, Nat.add_mul, Nat.one_mul]; omega
theorem flat_take {α : Type} (f : α → List Int) (l : List α) (i : Nat) (h : i < l.length) : (l.take (i + 1)).flatMap f = (l.take i).flatMap f ++ f l[i] := by
  rw [List.take_succ_eq_append_getElem h]
  simp only [List.flatMap_append, List.flatMap_cons, List.flatMap_nil, List.append_nil]
theorem range_flat (f : Nat → List Int) (i : Nat) : (List.range (i + 1)).flatMap f = (List.range i).flatMap f ++ f i := by
  rw [List.range_succ]; simp
theorem tabs_len (m : Me) (j : Nat) : (tabs m j).length ≤ m.chars.length := tabL_len _ _
theorem tabBytes_len (m : Me) (j : Nat) (h : m.chars.length ≤ 1000) : (tabBytes (tabs m j)).length ≤ 4002 := by
  have h1 := tabs_len m j
  have h2 := flat_len_le bytes4 4 (fun _ => by simp [bytes4]) (tabs m j)
  simp only [tabBytes, List.length_append]
  have : (bytes2 ((tabs m j).length : Int)).length = 2 := rfl
  omega
theorem tabsB_len (m : Me) (i : Nat) (h : m.chars.length ≤ 1000) : (tabsB m i).length ≤ i * 4002 := by
  have := flat_len_le (fun j => tabBytes (tabs m j)) 4002 (fun j => tabBytes_len m j h) (List.range i)
  simpa [tabsB] using this
theorem chBytes_len (m : Me) (c : Ch) : (chBytes m c).length ≤ 7 := by
  have := flat_len_le (dimB m c) 2 (fun j => by simp [dimB, bytes2]) (List.range 3)
  simp only [chBytes, List.length_append, List.length_singleton]
  rw [List.length_range] at this; omega
theorem ruBytes_len (r : Ru) : (ruBytes r).length ≤ 7 := by simp [ruBytes, bytes4]
theorem compact_sub (l : List Int) : (Lib.compact l).Sublist l := by
  unfold Lib.compact
  have : ∀ m, m ≤ l.length → (Lib.compactUpTo l.toArray m).Sublist (l.take m) := by
    intro m
    induction m with
    | zero => intro _; simp [Lib.compactUpTo]
    | succ m ih =>
      intro hm
      rw [Lib.compactUpTo_succ, List.take_succ_eq_append_getElem (by omega)]
      refine List.Sublist.append (ih (by omega)) ?_
      split
      · have : l.toArray[m]! = l[m] := by rw [getElem!_pos _ _ (by simpa using (by omega : m < l.length))]; simp
        rw [this]
        exact List.Sublist.refl _
      · exact List.nil_sublist _
  have := this l.length (Nat.le_refl _)
  rwa [List.take_length] at this
theorem tabs_sorted (m : Me) (j : Nat) : (tabs m j).Pairwise (· ≤ ·) := by
  have h1 : ((m.chars.map (dimF j)).mergeSort leI).Pairwise (fun a b => leI a b = true) :=
    List.pairwise_mergeSort (fun a b c h1 h2 => by simp [leI] at *; omega) (fun a b => by simp [leI]; omega) _
  have h2 := h1.sublist (compact_sub _)
  exact h2.imp (by intro a b h; simpa [leI] using h)
/-! ## what holds while a file is being written -/
structure PK (w0 w : World) (S : Nat → Prop) (a tb : Nat) (KR : List (Addr × List Value)) (bs : List Int) (T : Nat → List Int) (vs : Nat → Value) : Prop where
  ext : Ext w0 w
  file : FileR w S a bs
  hS : ∀ k, S k → w0.heap.size ≤ k
  hS2 : ∀ k, S k → k < w.heap.size
  tab : ∃ ty, w.heap[tb]? = some (.cells #[vs 0, vs 1, vs 2] ty (0, 0))
  own : ∀ j, j < 3 → Own w 3 1 (vs j) (T j).length ((T j).map iV) ∧ ∀ k, (vs j).ownBlock = some k → ¬ S k ∧ k ≠ tb ∧ w0.heap.size ≤ k
  tbn : ¬ S tb ∧ w0.heap.size ≤ tb
  kept : ∀ x ∈ KR, Row w x.1 x.2 ∧ ¬ S x.1.block ∧ x.1.block ≠ tb ∧ x.1.block < w.heap.size
theorem PK.step {w0 w w' : World} {S : Nat → Prop} {a tb : Nat} {KR : List (Addr × List Value)} {bs : List Int} {T : Nat → List Int} {vs : Nat → Value} (h : PK w0 w S a tb KR bs T vs) (hE : Ext w w') : PK w0 w' S a tb KR bs T vs := by
  obtain ⟨ty, ht⟩ := h.tab
  exact ⟨h.ext.trans hE, h.file.mod hE (fun _ _ h => h), h.hS, fun k hk => Nat.lt_of_lt_of_le (h.hS2 k hk) hE.size, ⟨ty, Ext.heap hE ht⟩, fun j hj => ⟨Ext.owns hE (h.own j hj).1, (h.own j hj).2⟩, h.tbn,
    fun x hx => ⟨Ext.row hE (h.kept x hx).1, (h.kept x hx).2.1, (h.kept x hx).2.2.1, Nat.lt_of_lt_of_le (h.kept x hx).2.2.2 hE.size⟩⟩
theorem PK.write {w0 w w' : World} {S : Nat → Prop} {a tb : Nat} {KR : List (Addr × List Value)} {bs bs' : List Int} {T : Nat → List Int} {vs : Nat → Value} (h : PK w0 w S a tb KR bs T vs)
    (hf : FileR w' (fun k => S k ∨ w.heap.size ≤ k ∧ k < w'.heap.size) a bs') (hm : Mod S w w') : PK w0 w' (fun k => S k ∨ w.heap.size ≤ k ∧ k < w'.heap.size) a tb KR bs' T vs := by
  obtain ⟨ty, ht⟩ := h.tab
  have htb : tb < w.heap.size := (Array.getElem?_eq_some_iff.1 ht).1
  refine ⟨Ext.thenMod h.ext hm (fun k hk hs => by have := h.hS k hs; omega), hf, ?_, ?_, ⟨ty, hm.heap ht h.tbn.1⟩, fun j hj => ?_, ⟨?_, h.tbn.2⟩, fun x hx => ?_⟩
  · rintro k (hk | hk)
    · exact h.hS k hk
    · exact Nat.le_trans h.ext.size hk.1
  · rintro k (hk | hk)
    · exact Nat.lt_of_lt_of_le (h.hS2 k hk) hm.size
    · exact hk.2
  · obtain ⟨ho, hb⟩ := h.own j hj
    refine ⟨hm.owns ho (fun k hk => (hb k hk).1), fun k hk => ⟨?_, (hb k hk).2⟩⟩
    rintro (hs | hs)
    · exact (hb k hk).1 hs
    · have := Own.lt ho hk; omega
  · rintro (hs | hs)
    · exact h.tbn.1 hs
    · omega
  · obtain ⟨h1, h2, h3, h4⟩ := h.kept x hx
    refine ⟨hm.row h1 h2, ?_, h3, Nat.lt_of_lt_of_le h4 hm.size⟩
    rintro (hs | hs)
    · exact h2 hs
    · omega
theorem PK.add {w0 w : World} {S : Nat → Prop} {a tb : Nat} {KR : List (Addr × List Value)} {bs : List Int} {T : Nat → List Int} {vs : Nat → Value} (h : PK w0 w S a tb KR bs T vs) {p : Addr} {xs : List Value}
    (hr : Row w p xs) (hS : ¬ S p.block) (ht : p.block ≠ tb) (hl : p.block < w.heap.size) : PK w0 w S a tb ((p, xs) :: KR) bs T vs :=
  ⟨h.ext, h.file, h.hS, h.hS2, h.tab, h.own, h.tbn, fun x hx => by
    rcases List.mem_cons.1 hx with rfl | hx
    · exact ⟨hr, hS, ht, hl⟩
    · exact h.kept x hx⟩
theorem PK.drop {w0 w : World} {S : Nat → Prop} {a tb : Nat} {x : Addr × List Value} {KR : List (Addr × List Value)} {bs : List Int} {T : Nat → List Int} {vs : Nat → Value} (h : PK w0 w S a tb (x :: KR) bs T vs) : PK w0 w S a tb KR bs T vs :=
  ⟨h.ext, h.file, h.hS, h.hS2, h.tab, h.own, h.tbn, fun y hy => h.kept y (List.mem_cons_of_mem _ hy)⟩
def updF {α : Type} (f : Nat → α) (i : Nat) (x : α) : Nat → α := fun j => if j = i then x else f j
theorem tab_get (vs : Nat → Value) (i : Nat) (hi : i < 3) : (#[vs 0, vs 1, vs 2] : Array Value)[i]? = some (vs i) := by
  match i, hi with
  | 0, _ => rfl
  | 1, _ => rfl
  | 2, _ => rfl
theorem tab_set (vs : Nat → Value) (i : Nat) (hi : i < 3) (v : Value) : (#[vs 0, vs 1, vs 2] : Array Value).setIfInBounds i v = #[updF vs i v 0, updF vs i v 1, updF vs i v 2] := by
  match i, hi with
  | 0, _ => rfl
  | 1, _ => rfl
  | 2, _ => rfl
theorem PK.store {w0 w : World} {S : Nat → Prop} {a tb : Nat} {KR : List (Addr × List Value)} {bs : List Int} {T : Nat → List Int} {vs : Nat → Value} (h : PK w0 w S a tb KR bs T vs) {i : Nat} (hi : i < 3) {v : Value} {t : List Int}
    (ho : Own w 3 1 v t.length (t.map iV)) (hb : ∀ k, v.ownBlock = some k → ¬ S k ∧ k ≠ tb ∧ w0.heap.size ≤ k) :
    PK w0 (w.setRow tb ((#[vs 0, vs 1, vs 2] : Array Value).setIfInBounds i v)) S a tb KR bs (updF T i t) (updF vs i v) := by
  obtain ⟨ty, ht⟩ := h.tab
  have hmod : Mod (fun k => k = tb) w (w.setRow tb ((#[vs 0, vs 1, vs 2] : Array Value).setIfInBounds i v)) := setRow_mod rfl
  refine ⟨Ext.thenMod h.ext hmod (fun k hk hs => by have := h.tbn.2; omega), h.file.mod hmod (fun k hk hs => h.tbn.1 (hs ▸ hk)), h.hS, fun k hk => by have := h.hS2 k hk; simpa using this, ⟨ty, by rw [← tab_set vs i hi v]; exact setRow_heap w tb _ _ ty _ ht⟩, fun j hj => ?_, h.tbn, fun x hx => ?_⟩
  · unfold updF
    by_cases e : j = i
    · rw [if_pos e, if_pos e]
      exact ⟨hmod.owns ho (fun k hk => (hb k hk).2.1), hb⟩
    · rw [if_neg e, if_neg e]
      obtain ⟨h1, h2⟩ := h.own j hj
      exact ⟨hmod.owns h1 (fun k hk => (h2 k hk).2.1), h2⟩
  · obtain ⟨h1, h2, h3, h4⟩ := h.kept x hx
    exact ⟨hmod.row h1 h3, h2, h3, by simpa using h4⟩
theorem PK.tcell {w0 w : World} {S : Nat → Prop} {a tb : Nat} {KR : List (Addr × List Value)} {bs : List Int} {T : Nat → List Int} {vs : Nat → Value} (h : PK w0 w S a tb KR bs T vs) {i : Nat} (hi : i < 3) : w.cell? (Addr.add ⟨tb, 0, none⟩ (i * 1)) = some (vs i) := by
  obtain ⟨ty, ht⟩ := h.tab
  rw [Nat.mul_one]
  exact row_heap ht i _ (by simpa using tab_get vs i hi)
end Go.Proofs.YthfnijlgmjkedaaGreat
