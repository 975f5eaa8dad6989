/- The library's sort, laid. Conditions: those that each theorem names. -/
import Derived.Ground.NamesProg
import Derived.Shelf.Sort.Plain
import Derived.Test.YtaliacnncemneaaGreatProg
open Go
noncomputable section
namespace Go.Proofs
open Go.Shelf
def Tryz.lays191_ren : Go.Shelf.Ren := ⟨fun | 191 => 38 | 189 => 53 | 125 => 47 | 257 => 82 | 128 => 65 | 129 => 66 | 294 => 90 | 295 => 91 | 296 => 92 | 297 => 93 | 298 => 94 | 299 => 95 | 216 => 96 | 300 => 97 | 301 => 98 | 328 => 102 | 329 => 103 | 330 => 104 | 331 => 105 | 332 => 106 | 215 => 107 | 343 => 108 | n => n, fun | 28 => 32 | 0 => 0 | 3 => 3 | 46 => 78 | 51 => 88 | 53 => 90 | 4 => 4 | 183 => 112 | 182 => 111 | 131 => 36 | 5 => 5 | 9 => 9 | 218 => 120 | 222 => 106 | 228 => 123 | 229 => 118 | n => n, fun | n => n⟩
theorem Tryz.lays191 : Go.Proofs.Lays.n191 Tryz.prog Tryz.lays191_ren := {
 mixed := by kernel_rfl
 f125 := Tryz.func47.trans (congrArg some (by kernel_rfl))
 f128 := Tryz.func65.trans (congrArg some (by kernel_rfl))
 f129 := Tryz.func66.trans (congrArg some (by kernel_rfl))
 f189 := Tryz.func53.trans (congrArg some (by kernel_rfl))
 f191 := Tryz.func38.trans (congrArg some (by kernel_rfl))
 f215 := Tryz.func107.trans (congrArg some (by kernel_rfl))
 f216 := Tryz.func96.trans (congrArg some (by kernel_rfl))
 f257 := Tryz.func82.trans (congrArg some (by kernel_rfl))
 f294 := Tryz.func90.trans (congrArg some (by kernel_rfl))
 f295 := Tryz.func91.trans (congrArg some (by kernel_rfl))
 f296 := Tryz.func92.trans (congrArg some (by kernel_rfl))
 f297 := Tryz.func93.trans (congrArg some (by kernel_rfl))
 f298 := Tryz.func94.trans (congrArg some (by kernel_rfl))
 f299 := Tryz.func95.trans (congrArg some (by kernel_rfl))
 f300 := Tryz.func97.trans (congrArg some (by kernel_rfl))
 f301 := Tryz.func98.trans (congrArg some (by kernel_rfl))
 f328 := Tryz.func102.trans (congrArg some (by kernel_rfl))
 f329 := Tryz.func103.trans (congrArg some (by kernel_rfl))
 f330 := Tryz.func104.trans (congrArg some (by kernel_rfl))
 f331 := Tryz.func105.trans (congrArg some (by kernel_rfl))
 f332 := Tryz.func106.trans (congrArg some (by kernel_rfl))
 f343 := Tryz.func108.trans (congrArg some (by kernel_rfl))
 t0 := Tryz.underlying0
 a0 := Tryz.isAgg0
 z0 := Tryz.sizeOf0
 v0 := Tryz.zeroValue0
 t3 := Tryz.underlying3
 a3 := Tryz.isAgg3
 z3 := Tryz.sizeOf3
 v3 := Tryz.zeroValue3
 t4 := Tryz.underlying4
 a4 := Tryz.isAgg4
 z4 := Tryz.sizeOf4
 v4 := Tryz.zeroValue4
 t5 := Tryz.underlying5
 a5 := Tryz.isAgg5
 z5 := Tryz.sizeOf5
 v5 := Tryz.zeroValue5
 t9 := Tryz.underlying9
 a9 := Tryz.isAgg9
 z9 := Tryz.sizeOf9
 v9 := Tryz.zeroValue9
 t28 := Tryz.underlying32
 a28 := Tryz.isAgg32
 z28 := Tryz.sizeOf32
 v28 := Tryz.zeroValue32
 t46 := Tryz.underlying78
 a46 := Tryz.isAgg78
 z46 := Tryz.sizeOf78
 v46 := Tryz.zeroValue78
 t51 := Tryz.underlying88
 a51 := Tryz.isAgg88
 z51 := Tryz.sizeOf88
 v51 := Tryz.zeroValue88
 t53 := Tryz.underlying90
 a53 := Tryz.isAgg90
 z53 := Tryz.sizeOf90
 v53 := Tryz.zeroValue90
 t131 := Tryz.underlying36
 a131 := Tryz.isAgg36
 z131 := Tryz.sizeOf36
 v131 := Tryz.zeroValue36
 t182 := Tryz.underlying111
 a182 := Tryz.isAgg111
 z182 := Tryz.sizeOf111
 v182 := Tryz.zeroValue111
 t183 := Tryz.underlying112
 a183 := Tryz.isAgg112
 z183 := Tryz.sizeOf112
 v183 := Tryz.zeroValue112
 t218 := Tryz.underlying120
 a218 := Tryz.isAgg120
 z218 := Tryz.sizeOf120
 v218 := Tryz.zeroValue120
 t222 := Tryz.underlying106
 a222 := Tryz.isAgg106
 z222 := Tryz.sizeOf106
 v222 := Tryz.zeroValue106
 t228 := Tryz.underlying123
 a228 := Tryz.isAgg123
 z228 := Tryz.sizeOf123
 v228 := Tryz.zeroValue123
 t229 := Tryz.underlying118
 a229 := Tryz.isAgg118
 z229 := Tryz.sizeOf118
 v229 := Tryz.zeroValue118 }
open Go.Sort in
theorem Tryz.sort_Ints (blk off cap : Nat) (zs : List Int) (w : World) (hH : Holds (Value.int .i64) w blk off zs.toArray) (hblk : blk < w.heap.size) (hsz : zs.length < 4611686018427387904) :
  Calls Tryz.prog 38 #[.slice (some ⟨blk, off, none⟩) zs.length cap] w fun e w' => e = .returned (.tuple #[]) ∧ ∃ n os, w' = grow (putRow (Value.int .i64) (Sort.ahead w n) blk off (zs.mergeSort fun x y => decide (x ≤ y)).toArray) os := Any.sort_Ints Tryz.lays191 blk off cap zs w hH hblk hsz
end Go.Proofs
end
