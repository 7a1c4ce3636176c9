/- The library functions that this program calls, laid at its numbers (written by the kit's own tool, plain mode). -/
import Derived.Test.YticpfopjffbgbaaProg
import Derived.Shelf.SlCmpFuncs.IsSortedFunc
import Derived.Shelf.SlCmpFuncs.BinarySearchFunc
import Derived.Shelf.SlCmpFuncs.None
import Derived.Ground.SlsgProg
namespace Go.Proofs
open Go.Shelf
def Try.sortedL_ren : Go.Shelf.Ren := ⟨fun | 7 => 36 | n => n, fun | 22 => 22 | 24 => 27 | 25 => 26 | 4 => 4 | 3 => 3 | 0 => 0 | n => n, fun | n => n⟩
theorem Try.sortedL : Go.Proofs.SlLaysG2.n7 Try.prog Try.sortedL_ren := {
  mixed := by kernel_rfl
  f7 := ⟨Try.f36.name, by decide, Try.func36.trans (congrArg some (by kernel_rfl))⟩
  t0 := Try.underlying0
  a0 := Try.isAgg0
  z0 := Try.sizeOf0
  v0 := Try.zeroValue0
  t3 := Try.underlying3
  a3 := Try.isAgg3
  z3 := Try.sizeOf3
  v3 := Try.zeroValue3
  t4 := Try.underlying4
  a4 := Try.isAgg4
  z4 := Try.sizeOf4
  v4 := Try.zeroValue4
  t22 := Try.underlying22
  a22 := Try.isAgg22
  z22 := Try.sizeOf22
  v22 := Try.zeroValue22
  a24 := Try.isAgg27
  z24 := Try.sizeOf27
  t25 := Try.underlying26
  a25 := Try.isAgg26
  z25 := Try.sizeOf26
  v25 := Try.zeroValue26 }
def Try.searchL_ren : Go.Shelf.Ren := ⟨fun | 14 => 37 | n => n, fun | 22 => 22 | 24 => 27 | 29 => 27 | 32 => 26 | 3 => 3 | 4 => 4 | 35 => 54 | 0 => 0 | n => n, fun | n => n⟩
theorem Try.searchL : Go.Proofs.SlLaysG2.n14 Try.prog Try.searchL_ren := {
  mixed := by kernel_rfl
  f14 := ⟨Try.f37.name, by decide, Try.func37.trans (congrArg some (by kernel_rfl))⟩
  t0 := Try.underlying0
  a0 := Try.isAgg0
  z0 := Try.sizeOf0
  v0 := Try.zeroValue0
  t3 := Try.underlying3
  a3 := Try.isAgg3
  z3 := Try.sizeOf3
  v3 := Try.zeroValue3
  t4 := Try.underlying4
  a4 := Try.isAgg4
  z4 := Try.sizeOf4
  v4 := Try.zeroValue4
  t22 := Try.underlying22
  a22 := Try.isAgg22
  z22 := Try.sizeOf22
  v22 := Try.zeroValue22
  a24 := Try.isAgg27
  z24 := Try.sizeOf27
  a29 := Try.isAgg27
  z29 := Try.sizeOf27
  t32 := Try.underlying26
  a32 := Try.isAgg26
  z32 := Try.sizeOf26
  v32 := Try.zeroValue26
  t35 := Try.underlying54
  a35 := Try.isAgg54
  z35 := Try.sizeOf54
  v35 := Try.zeroValue54 }
end Go.Proofs
