/- slices.Sort at ints, laid at this dump (lines that the kit's command wrote, out of its own text of contracts). -/
import Derived.Shelf.Sort.Plain
import Derived.Shelf.Slices.In.SortNone
import Derived.Test.YtkfagolmpbbckaaDoorProg
namespace Go.Proofs
open Go.Shelf
def Tryd.lays189_ren : Go.Shelf.Ren := ⟨fun | 189 => 111 | 125 => 158 | 257 => 157 | 128 => 197 | 129 => 198 | 294 => 188 | 295 => 189 | 296 => 190 | 297 => 191 | 298 => 192 | 299 => 193 | 216 => 194 | 300 => 195 | 301 => 196 | 328 => 214 | 329 => 215 | 330 => 216 | 331 => 217 | 332 => 218 | 215 => 219 | 343 => 228 | n => n, fun | 28 => 26 | 3 => 3 | 46 => 111 | 0 => 0 | 51 => 154 | 53 => 156 | 4 => 4 | 183 => 147 | 182 => 146 | 131 => 151 | 5 => 5 | 9 => 9 | 218 => 162 | 222 => 166 | 228 => 173 | 229 => 174 | n => n, fun | n => n⟩
theorem Tryd.lays189 : Go.Proofs.Lays.n189 Tryd.prog Tryd.lays189_ren := {
  mixed := by kernel_rfl
  f125 := Tryd.func158.trans (congrArg some (by kernel_rfl))
  f128 := Tryd.func197.trans (congrArg some (by kernel_rfl))
  f129 := Tryd.func198.trans (congrArg some (by kernel_rfl))
  f189 := Tryd.func111.trans (congrArg some (by kernel_rfl))
  f215 := Tryd.func219.trans (congrArg some (by kernel_rfl))
  f216 := Tryd.func194.trans (congrArg some (by kernel_rfl))
  f257 := Tryd.func157.trans (congrArg some (by kernel_rfl))
  f294 := Tryd.func188.trans (congrArg some (by kernel_rfl))
  f295 := Tryd.func189.trans (congrArg some (by kernel_rfl))
  f296 := Tryd.func190.trans (congrArg some (by kernel_rfl))
  f297 := Tryd.func191.trans (congrArg some (by kernel_rfl))
  f298 := Tryd.func192.trans (congrArg some (by kernel_rfl))
  f299 := Tryd.func193.trans (congrArg some (by kernel_rfl))
  f300 := Tryd.func195.trans (congrArg some (by kernel_rfl))
  f301 := Tryd.func196.trans (congrArg some (by kernel_rfl))
  f328 := Tryd.func214.trans (congrArg some (by kernel_rfl))
  f329 := Tryd.func215.trans (congrArg some (by kernel_rfl))
  f330 := Tryd.func216.trans (congrArg some (by kernel_rfl))
  f331 := Tryd.func217.trans (congrArg some (by kernel_rfl))
  f332 := Tryd.func218.trans (congrArg some (by kernel_rfl))
  f343 := Tryd.func228.trans (congrArg some (by kernel_rfl))
  t0 := Tryd.underlying0
  a0 := Tryd.isAgg0
  z0 := Tryd.sizeOf0
  v0 := Tryd.zeroValue0
  t3 := Tryd.underlying3
  a3 := Tryd.isAgg3
  z3 := Tryd.sizeOf3
  v3 := Tryd.zeroValue3
  t4 := Tryd.underlying4
  a4 := Tryd.isAgg4
  z4 := Tryd.sizeOf4
  v4 := Tryd.zeroValue4
  t5 := Tryd.underlying5
  a5 := Tryd.isAgg5
  z5 := Tryd.sizeOf5
  v5 := Tryd.zeroValue5
  t9 := Tryd.underlying9
  a9 := Tryd.isAgg9
  z9 := Tryd.sizeOf9
  v9 := Tryd.zeroValue9
  t28 := Tryd.underlying26
  a28 := Tryd.isAgg26
  z28 := Tryd.sizeOf26
  v28 := Tryd.zeroValue26
  t46 := Tryd.underlying111
  a46 := Tryd.isAgg111
  z46 := Tryd.sizeOf111
  v46 := Tryd.zeroValue111
  t51 := Tryd.underlying154
  a51 := Tryd.isAgg154
  z51 := Tryd.sizeOf154
  v51 := Tryd.zeroValue154
  t53 := Tryd.underlying156
  a53 := Tryd.isAgg156
  z53 := Tryd.sizeOf156
  v53 := Tryd.zeroValue156
  t131 := Tryd.underlying151
  a131 := Tryd.isAgg151
  z131 := Tryd.sizeOf151
  v131 := Tryd.zeroValue151
  t182 := Tryd.underlying146
  a182 := Tryd.isAgg146
  z182 := Tryd.sizeOf146
  v182 := Tryd.zeroValue146
  t183 := Tryd.underlying147
  a183 := Tryd.isAgg147
  z183 := Tryd.sizeOf147
  v183 := Tryd.zeroValue147
  t218 := Tryd.underlying162
  a218 := Tryd.isAgg162
  z218 := Tryd.sizeOf162
  v218 := Tryd.zeroValue162
  t222 := Tryd.underlying166
  a222 := Tryd.isAgg166
  z222 := Tryd.sizeOf166
  v222 := Tryd.zeroValue166
  t228 := Tryd.underlying173
  a228 := Tryd.isAgg173
  z228 := Tryd.sizeOf173
  v228 := Tryd.zeroValue173
  t229 := Tryd.underlying174
  a229 := Tryd.isAgg174
  z229 := Tryd.sizeOf174
  v229 := Tryd.zeroValue174 }
open Go.Sort Go.RowKit in
theorem Tryd.slices_Sort_int (blk off cap : Nat) (zs : List Int) (w : World) (hH : Holds (Value.int .i64) w blk off zs.toArray) (hblk : blk < w.heap.size) (hsz : zs.length < 4611686018427387904) :
    Calls Tryd.prog 111 #[.slice (some ⟨blk, off, none⟩) zs.length cap] w fun e w' =>
      e = .returned (.tuple #[]) ∧ ∃ n os, w' = grow (putRow (Value.int .i64) (Sort.ahead w n) blk off (zs.mergeSort fun x y => decide (x ≤ y)).toArray) os := Any.slices_Sort_int Tryd.lays189 blk off cap zs w hH hblk hsz
open Go.RowKit Go.Sort in
/-- .. and plain. (LAID: no walk: one application.) -/
theorem Tryd.slices_Sort_int_none (p : Option Addr) (cap : Nat) (w : World) :
    Calls Tryd.prog 111 #[.slice p 0 cap] w fun e w' => e = .returned (.tuple #[]) ∧ w' = w := Any.slices_Sort_int_none Tryd.lays189 p cap w
end Go.Proofs
