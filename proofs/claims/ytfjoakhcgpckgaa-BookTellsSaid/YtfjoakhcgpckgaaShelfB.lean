/-
  DERIVED: THE SHELF's CONTRACTS AT THIS DUMP, IN PLAIN WORDS (tools/lay-plain.mjs out of 'TryShelf.lean', which tools/lay-shelf.mjs wrote): THE SAME DECLARATIONS UNDER THE SAME NAMES: 'import', 'namespace', 'open', 'def', 'theorem' AND NOTHING ELSE: no command of the shelf's: FOR A HAND-IN. Each laying: the table of numbers ('.._ren') and one theorem, a field a fact of the dump's own or the kernel's comparison; each contract: ONE APPLICATION.
-/
import Derived.Shelf.Sort.Plain
import Derived.Ground.Names2Prog
import Derived.Shelf.Slices.CompactI
import Derived.Shelf.Slices.Cells
import Derived.Test.YtfjoakhcgpckgaaProg
namespace Go.Proofs
open Go.Shelf
def Try.lays189_ren : Go.Shelf.Ren := ⟨fun | 189 => 205 | 125 => 211 | 257 => 221 | 128 => 231 | 129 => 220 | 294 => 233 | 295 => 234 | 296 => 235 | 297 => 236 | 298 => 237 | 299 => 238 | 216 => 239 | 300 => 240 | 301 => 241 | 328 => 248 | 329 => 243 | 330 => 244 | 331 => 249 | 332 => 250 | 215 => 212 | 343 => 252 | n => n, fun | 28 => 58 | 3 => 3 | 46 => 272 | 0 => 0 | 51 => 301 | 53 => 214 | 4 => 4 | 183 => 295 | 182 => 294 | 131 => 140 | 5 => 5 | 9 => 9 | 218 => 307 | 222 => 311 | 228 => 315 | 229 => 316 | n => n, fun | n => n⟩
theorem Try.lays189 : Go.Proofs.Lays.n189 Try.prog Try.lays189_ren := {
  mixed := by kernel_rfl
  f125 := Try.func211.trans (congrArg some (by kernel_rfl))
  f128 := Try.func231.trans (congrArg some (by kernel_rfl))
  f129 := Try.func220.trans (congrArg some (by kernel_rfl))
  f189 := Try.func205.trans (congrArg some (by kernel_rfl))
  f215 := Try.func212.trans (congrArg some (by kernel_rfl))
  f216 := Try.func239.trans (congrArg some (by kernel_rfl))
  f257 := Try.func221.trans (congrArg some (by kernel_rfl))
  f294 := Try.func233.trans (congrArg some (by kernel_rfl))
  f295 := Try.func234.trans (congrArg some (by kernel_rfl))
  f296 := Try.func235.trans (congrArg some (by kernel_rfl))
  f297 := Try.func236.trans (congrArg some (by kernel_rfl))
  f298 := Try.func237.trans (congrArg some (by kernel_rfl))
  f299 := Try.func238.trans (congrArg some (by kernel_rfl))
  f300 := Try.func240.trans (congrArg some (by kernel_rfl))
  f301 := Try.func241.trans (congrArg some (by kernel_rfl))
  f328 := Try.func248.trans (congrArg some (by kernel_rfl))
  f329 := Try.func243.trans (congrArg some (by kernel_rfl))
  f330 := Try.func244.trans (congrArg some (by kernel_rfl))
  f331 := Try.func249.trans (congrArg some (by kernel_rfl))
  f332 := Try.func250.trans (congrArg some (by kernel_rfl))
  f343 := Try.func252.trans (congrArg some (by kernel_rfl))
  t0 := Try.underlying0
  a0 := Try.isAgg0
  z0 := Try.sizeOf0
  v0 := Try.zeroValue0
  t3 := Try.underlying3
  a3 := Try.isAgg3
  z3 := Try.sizeOf3
  v3 := Try.zeroValue3
  t4 := Try.underlying4
  a4 := Try.isAgg4
  z4 := Try.sizeOf4
  v4 := Try.zeroValue4
  t5 := Try.underlying5
  a5 := Try.isAgg5
  z5 := Try.sizeOf5
  v5 := Try.zeroValue5
  t9 := Try.underlying9
  a9 := Try.isAgg9
  z9 := Try.sizeOf9
  v9 := Try.zeroValue9
  t28 := Try.underlying58
  a28 := Try.isAgg58
  z28 := Try.sizeOf58
  v28 := Try.zeroValue58
  t46 := Try.underlying272
  a46 := Try.isAgg272
  z46 := Try.sizeOf272
  v46 := Try.zeroValue272
  t51 := Try.underlying301
  a51 := Try.isAgg301
  z51 := Try.sizeOf301
  v51 := Try.zeroValue301
  t53 := Try.underlying214
  a53 := Try.isAgg214
  z53 := Try.sizeOf214
  v53 := Try.zeroValue214
  t131 := Try.underlying140
  a131 := Try.isAgg140
  z131 := Try.sizeOf140
  v131 := Try.zeroValue140
  t182 := Try.underlying294
  a182 := Try.isAgg294
  z182 := Try.sizeOf294
  v182 := Try.zeroValue294
  t183 := Try.underlying295
  a183 := Try.isAgg295
  z183 := Try.sizeOf295
  v183 := Try.zeroValue295
  t218 := Try.underlying307
  a218 := Try.isAgg307
  z218 := Try.sizeOf307
  v218 := Try.zeroValue307
  t222 := Try.underlying311
  a222 := Try.isAgg311
  z222 := Try.sizeOf311
  v222 := Try.zeroValue311
  t228 := Try.underlying315
  a228 := Try.isAgg315
  z228 := Try.sizeOf315
  v228 := Try.zeroValue315
  t229 := Try.underlying316
  a229 := Try.isAgg316
  z229 := Try.sizeOf316
  v229 := Try.zeroValue316 }
open Go.Sort Go.RowKit in
theorem Try.slices_Sort_int (blk off cap : Nat) (zs : List Int) (w : World) (hH : Holds (Value.int .i64) w blk off zs.toArray) (hblk : blk < w.heap.size) (hsz : zs.length < 4611686018427387904) :
    Calls Try.prog 205 #[.slice (some ⟨blk, off, none⟩) zs.length cap] w fun e w' =>
      e = .returned (.tuple #[]) ∧ ∃ n os, w' = grow (putRow (Value.int .i64) (Sort.ahead w n) blk off (zs.mergeSort fun x y => decide (x ≤ y)).toArray) os := Any.slices_Sort_int Try.lays189 blk off cap zs w hH hblk hsz
def Try.laysNm220_ren : Go.Shelf.Ren := ⟨fun | 20 => 206 | n => n, fun | 22 => 58 | 3 => 3 | 4 => 4 | 0 => 0 | n => n, fun | n => n⟩
theorem Try.laysNm220 : Go.Proofs.Lays2.n20 Try.prog Try.laysNm220_ren := {
  mixed := by kernel_rfl
  f20 := Try.func206.trans (congrArg some (by kernel_rfl))
  t0 := Try.underlying0
  a0 := Try.isAgg0
  z0 := Try.sizeOf0
  v0 := Try.zeroValue0
  t3 := Try.underlying3
  a3 := Try.isAgg3
  z3 := Try.sizeOf3
  v3 := Try.zeroValue3
  t4 := Try.underlying4
  a4 := Try.isAgg4
  z4 := Try.sizeOf4
  v4 := Try.zeroValue4
  t22 := Try.underlying58
  a22 := Try.isAgg58
  z22 := Try.sizeOf58
  v22 := Try.zeroValue58
  i3 := by kernel_rfl }
open Go.RowKit Go.Lib Go.Sort in
/-- slices.Compact at []int, over an array: the library's two loops are walked. (LAID: no walk: one application.) -/
theorem Try.slices_Compact_int_arr (blk off cap : Nat) (d : Array Int) (w : World) (hH : Holds encI w blk off d) (hsz : d.size ≤ 9223372036854775807) (hcap : d.size ≤ cap) :
    Calls Try.prog 206 #[.slice (some ⟨blk, off, none⟩) d.size cap] w fun e w' => e = .returned (.slice (some ⟨blk, off, none⟩) (compactUpTo d d.size).length cap) ∧ ∃ q, w' = putRow encI (Sort.ahead w q) blk off (compactUpTo d d.size ++ List.replicate (d.size - (compactUpTo d d.size).length) 0).toArray := Any.slices_Compact_int_arr Try.laysNm220 blk off cap d w hH hsz hcap
open Go.RowKit Go.Lib Go.Sort in
/-- slices.Compact at []int: "Compact replaces consecutive runs of equal elements with a single copy. This is like the uniq command found on Unix. Compact modifies the contents of the slice s and returns the modified slice, which may have a smaller length. Compact zeroes the elements between the new length and the original length. The result preserves the nilness of s.": IT RETURNS THE SLICE CUT TO 'Lib.compact zs'; ITS CELLS HOLD 'Lib.compact zs', THEN ZERO VALUES up to the old length; all else is as it was, but for the count of draws. IN THE WORDS OF slices.Sort's CONTRACT ('Holds', 'putRow'): so the everyday 'slices.Sort(xs); xs = slices.Compact(xs)' goes from the one contract to the other. It asks 'zs.length ≤ cap' (every slice's: the reslicing 's[:k]' looks at it). Length 0, nil: '.._empty'. (LAID: no walk: one application.) -/
theorem Try.slices_Compact_int (blk off cap : Nat) (zs : List Int) (w : World) (hH : Holds (Value.int .i64) w blk off zs.toArray) (hsz : zs.length ≤ 9223372036854775807) (hcap : zs.length ≤ cap) :
    Calls Try.prog 206 #[.slice (some ⟨blk, off, none⟩) zs.length cap] w fun e w' => e = .returned (.slice (some ⟨blk, off, none⟩) (Lib.compact zs).length cap) ∧ ∃ q, w' = putRow (Value.int .i64) (Sort.ahead w q) blk off (Lib.compact zs ++ List.replicate (zs.length - (Lib.compact zs).length) 0).toArray := Any.slices_Compact_int Try.laysNm220 blk off cap zs w hH hsz hcap
open Go.RowKit Go.Lib Go.Sort in
/-- The same at a slice of length 0, a nil one too: it comes back as it is. (LAID: no walk: one application.) -/
theorem Try.slices_Compact_int_empty (a : Option Addr) (cap : Nat) (w : World) :
    Calls Try.prog 206 #[.slice a 0 cap] w fun e w' => e = .returned (.slice a 0 cap) ∧ w' = w := Any.slices_Compact_int_empty Try.laysNm220 a cap w
end Go.Proofs
