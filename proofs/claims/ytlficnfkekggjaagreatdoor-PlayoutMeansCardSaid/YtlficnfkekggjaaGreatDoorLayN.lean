/-
  The contracts of the library off the shelf, laid over this program (ints; bits.Len; strconv.Itoa below 100). WRITTEN BY THE KIT (lay-shelf.mjs, lay-plain.mjs), by way of wip/tools/layn.py.
-/
import Derived.Shelf.Strings.Builder1
import Derived.Shelf.Small.Bits
import Derived.Shelf.Small.Strs
import Derived.Shelf.Strings.BuilderF
import Derived.Shelf.Strings.BuilderK
import Derived.Shelf.Strconv.Itoa0
import Derived.Shelf.Sort.Plain
import Derived.Ground.Names2Prog
import Derived.Shelf.Slices.Clone
import Derived.Shelf.Slices.In.SortNone
import Derived.Ground.SlgnProg
import Derived.Shelf.SlicesE.Clone
import Derived.Test.YtlficnfkekggjaaGreatDoorChecked
namespace Go.Proofs.YtlficnfkekggjaaGreatDoor
open Go.Shelf
def ln_lays125_ren : Go.Shelf.Ren := ⟨fun | 125 => 22 | 128 => 52 | 129 => 53 | n => n, fun | 46 => 56 | 3 => 3 | 51 => 32 | 53 => 44 | 4 => 4 | 5 => 5 | 9 => 9 | n => n, fun | n => n⟩
theorem ln_lays125 : Go.Proofs.Lays.n125 Tryz.prog ln_lays125_ren := {
  mixed := by kernel_rfl
  f125 := Tryz.func22.trans (congrArg some (by kernel_rfl))
  f128 := Tryz.func52.trans (congrArg some (by kernel_rfl))
  f129 := Tryz.func53.trans (congrArg some (by kernel_rfl))
  t3 := Tryz.underlying3
  a3 := Tryz.isAgg3
  z3 := Tryz.sizeOf3
  v3 := Tryz.zeroValue3
  t4 := Tryz.underlying4
  a4 := Tryz.isAgg4
  z4 := Tryz.sizeOf4
  v4 := Tryz.zeroValue4
  t5 := Tryz.underlying5
  a5 := Tryz.isAgg5
  z5 := Tryz.sizeOf5
  v5 := Tryz.zeroValue5
  t9 := Tryz.underlying9
  a9 := Tryz.isAgg9
  z9 := Tryz.sizeOf9
  v9 := Tryz.zeroValue9
  t46 := Tryz.underlying56
  a46 := Tryz.isAgg56
  z46 := Tryz.sizeOf56
  v46 := Tryz.zeroValue56
  t51 := Tryz.underlying32
  a51 := Tryz.isAgg32
  z51 := Tryz.sizeOf32
  v51 := Tryz.zeroValue32
  t53 := Tryz.underlying44
  a53 := Tryz.isAgg44
  z53 := Tryz.sizeOf44
  v53 := Tryz.zeroValue44 }
theorem ln_bits_Len (x : Int) (w : World) (h0 : 0 ≤ x) (h1 : x ≤ 18446744073709551615) :
    Calls Tryz.prog 22 #[.int .u64 x] w fun e w' => e = .returned (.int .i64 (Lib.bitLen x.toNat)) ∧ w' = w := Any.bits_Len ln_lays125 x w h0 h1
def ln_lays189_ren : Go.Shelf.Ren := ⟨fun | 189 => 132 | 125 => 22 | 257 => 199 | 128 => 52 | 129 => 53 | 294 => 244 | 295 => 245 | 296 => 246 | 297 => 247 | 298 => 248 | 299 => 249 | 216 => 238 | 300 => 250 | 301 => 251 | 328 => 282 | 329 => 283 | 330 => 284 | 331 => 285 | 332 => 286 | 215 => 270 | 343 => 303 | n => n, fun | 28 => 22 | 3 => 3 | 46 => 56 | 0 => 0 | 51 => 32 | 53 => 44 | 4 => 4 | 183 => 329 | 182 => 328 | 131 => 199 | 5 => 5 | 9 => 9 | 218 => 363 | 222 => 367 | 228 => 382 | 229 => 383 | n => n, fun | n => n⟩
theorem ln_lays189 : Go.Proofs.Lays.n189 Tryz.prog ln_lays189_ren := {
  mixed := by kernel_rfl
  f125 := Tryz.func22.trans (congrArg some (by kernel_rfl))
  f128 := Tryz.func52.trans (congrArg some (by kernel_rfl))
  f129 := Tryz.func53.trans (congrArg some (by kernel_rfl))
  f189 := Tryz.func132.trans (congrArg some (by kernel_rfl))
  f215 := Tryz.func270.trans (congrArg some (by kernel_rfl))
  f216 := Tryz.func238.trans (congrArg some (by kernel_rfl))
  f257 := Tryz.func199.trans (congrArg some (by kernel_rfl))
  f294 := Tryz.func244.trans (congrArg some (by kernel_rfl))
  f295 := Tryz.func245.trans (congrArg some (by kernel_rfl))
  f296 := Tryz.func246.trans (congrArg some (by kernel_rfl))
  f297 := Tryz.func247.trans (congrArg some (by kernel_rfl))
  f298 := Tryz.func248.trans (congrArg some (by kernel_rfl))
  f299 := Tryz.func249.trans (congrArg some (by kernel_rfl))
  f300 := Tryz.func250.trans (congrArg some (by kernel_rfl))
  f301 := Tryz.func251.trans (congrArg some (by kernel_rfl))
  f328 := Tryz.func282.trans (congrArg some (by kernel_rfl))
  f329 := Tryz.func283.trans (congrArg some (by kernel_rfl))
  f330 := Tryz.func284.trans (congrArg some (by kernel_rfl))
  f331 := Tryz.func285.trans (congrArg some (by kernel_rfl))
  f332 := Tryz.func286.trans (congrArg some (by kernel_rfl))
  f343 := Tryz.func303.trans (congrArg some (by kernel_rfl))
  t0 := Tryz.underlying0
  a0 := Tryz.isAgg0
  z0 := Tryz.sizeOf0
  v0 := Tryz.zeroValue0
  t3 := Tryz.underlying3
  a3 := Tryz.isAgg3
  z3 := Tryz.sizeOf3
  v3 := Tryz.zeroValue3
  t4 := Tryz.underlying4
  a4 := Tryz.isAgg4
  z4 := Tryz.sizeOf4
  v4 := Tryz.zeroValue4
  t5 := Tryz.underlying5
  a5 := Tryz.isAgg5
  z5 := Tryz.sizeOf5
  v5 := Tryz.zeroValue5
  t9 := Tryz.underlying9
  a9 := Tryz.isAgg9
  z9 := Tryz.sizeOf9
  v9 := Tryz.zeroValue9
  t28 := Tryz.underlying22
  a28 := Tryz.isAgg22
  z28 := Tryz.sizeOf22
  v28 := Tryz.zeroValue22
  t46 := Tryz.underlying56
  a46 := Tryz.isAgg56
  z46 := Tryz.sizeOf56
  v46 := Tryz.zeroValue56
  t51 := Tryz.underlying32
  a51 := Tryz.isAgg32
  z51 := Tryz.sizeOf32
  v51 := Tryz.zeroValue32
  t53 := Tryz.underlying44
  a53 := Tryz.isAgg44
  z53 := Tryz.sizeOf44
  v53 := Tryz.zeroValue44
  t131 := Tryz.underlying199
  a131 := Tryz.isAgg199
  z131 := Tryz.sizeOf199
  v131 := Tryz.zeroValue199
  t182 := Tryz.underlying328
  a182 := Tryz.isAgg328
  z182 := Tryz.sizeOf328
  v182 := Tryz.zeroValue328
  t183 := Tryz.underlying329
  a183 := Tryz.isAgg329
  z183 := Tryz.sizeOf329
  v183 := Tryz.zeroValue329
  t218 := Tryz.underlying363
  a218 := Tryz.isAgg363
  z218 := Tryz.sizeOf363
  v218 := Tryz.zeroValue363
  t222 := Tryz.underlying367
  a222 := Tryz.isAgg367
  z222 := Tryz.sizeOf367
  v222 := Tryz.zeroValue367
  t228 := Tryz.underlying382
  a228 := Tryz.isAgg382
  z228 := Tryz.sizeOf382
  v228 := Tryz.zeroValue382
  t229 := Tryz.underlying383
  a229 := Tryz.isAgg383
  z229 := Tryz.sizeOf383
  v229 := Tryz.zeroValue383 }
open Go.Sort Go.RowKit in
theorem ln_slices_Sort_int (blk off cap : Nat) (zs : List Int) (w : World) (hH : Holds (Value.int .i64) w blk off zs.toArray) (hblk : blk < w.heap.size) (hsz : zs.length < 4611686018427387904) :
    Calls Tryz.prog 132 #[.slice (some ⟨blk, off, none⟩) zs.length cap] w fun e w' =>
      e = .returned (.tuple #[]) ∧ ∃ n os, w' = grow (putRow (Value.int .i64) (Sort.ahead w n) blk off (zs.mergeSort fun x y => decide (x ≤ y)).toArray) os := Any.slices_Sort_int ln_lays189 blk off cap zs w hH hblk hsz
def ln_laysNm215_ren : Go.Shelf.Ren := ⟨fun | 15 => 39 | n => n, fun | 22 => 22 | 3 => 3 | 4 => 4 | n => n, fun | n => n⟩
theorem ln_laysNm215 : Go.Proofs.Lays2.n15 Tryz.prog ln_laysNm215_ren := {
  mixed := by kernel_rfl
  f15 := Tryz.func39.trans (congrArg some (by kernel_rfl))
  t3 := Tryz.underlying3
  a3 := Tryz.isAgg3
  z3 := Tryz.sizeOf3
  v3 := Tryz.zeroValue3
  t4 := Tryz.underlying4
  a4 := Tryz.isAgg4
  z4 := Tryz.sizeOf4
  v4 := Tryz.zeroValue4
  t22 := Tryz.underlying22
  a22 := Tryz.isAgg22
  z22 := Tryz.sizeOf22
  v22 := Tryz.zeroValue22
  i3 := by kernel_rfl }
open Go.RowKit Go.Lib in
theorem ln_slices_Clone_int (b off n c : Nat) (zs : List Int) (w : World) (hz : n ≤ zs.length) (hbig : n * 8 ≤ 140737488355328) (hc : ∀ j, j < zs.length → w.cell? ⟨b, off + j, none⟩ = some (.int .i64 (zs.getD j 0))) :
    Calls Tryz.prog 39 #[.slice (some ⟨b, off, none⟩) n c] w fun e w' => ∃ v', e = .returned v' ∧ w'.ownsRow w.heap.size 3 1 v' n ((zs.take n).map (Value.int .i64)) ∧ v' ≠ .slice none 0 0 ∧ Below w.heap.size w w' := Any.slices_Clone_int ln_laysNm215 b off n c zs w hz hbig hc
open Go.RowKit Go.Lib in
theorem ln_slices_Clone_int_nil (n c : Nat) (w : World) :
    Calls Tryz.prog 39 #[.slice none n c] w fun e w' => e = .returned (.slice none 0 0) ∧ w' = w := Any.slices_Clone_int_nil ln_laysNm215 n c w
open Go.RowKit Go.Lib in
theorem ln_slices_Clone_int_zero (a : Addr) (c : Nat) (w : World) :
    Calls Tryz.prog 39 #[.slice (some a) 0 c] w fun e w' => ∃ v', e = .returned v' ∧ w'.ownsRow w.heap.size 3 1 v' 0 [] ∧ v' ≠ .slice none 0 0 ∧ Below w.heap.size w w' := Any.slices_Clone_int_zero ln_laysNm215 a c w
open Go.RowKit Go.Sort in
theorem ln_slices_Sort_int_none (p : Option Addr) (cap : Nat) (w : World) :
    Calls Tryz.prog 132 #[.slice p 0 cap] w fun e w' => e = .returned (.tuple #[]) ∧ w' = w := Any.slices_Sort_int_none ln_lays189 p cap w
end Go.Proofs.YtlficnfkekggjaaGreatDoor
