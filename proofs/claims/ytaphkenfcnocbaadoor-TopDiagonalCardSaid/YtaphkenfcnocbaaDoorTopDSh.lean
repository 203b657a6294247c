/-
  slices.SortFunc at this translation: the layings of the shelf, in plain words; the laws of the sort. Conditions: none.
-/
import Derived.Test.YtaphkenfcnocbaaDoorVBitr
import Derived.Test.YtaphkenfcnocbaaDoorVSort
import Derived.KernelRfl
import Derived.Test.YtaphkenfcnocbaaDoorProg
set_option linter.unusedVariables false
set_option linter.unusedSimpArgs false
set_option linter.deprecated false
namespace Go.Proofs
open Go.Shelf
def Tryd.tz_ren : Go.Shelf.Ren := ⟨fun | 27 => 66 | 28 => 89 | 29 => 90 | n => n, fun | 25 => 70 | 3 => 3 | 27 => 120 | 22 => 122 | 4 => 4 | 53 => 156 | 0 => 0 | 5 => 5 | 54 => 157 | n => n, fun | 0 => 0 | 1 => 1 | n => n⟩
theorem Tryd.tz : Go.Proofs.Lays7.n27 Tryd.prog Tryd.tz_ren := {
  mixed := by kernel_rfl
  f27 := Tryd.func66.trans (congrArg some (by kernel_rfl))
  f28 := Tryd.func89.trans (congrArg some (by kernel_rfl))
  f29 := Tryd.func90.trans (congrArg some (by kernel_rfl))
  t0 := Tryd.underlying0
  a0 := Tryd.isAgg0
  z0 := Tryd.sizeOf0
  v0 := Tryd.zeroValue0
  i0 := by kernel_rfl
  t3 := Tryd.underlying3
  a3 := Tryd.isAgg3
  z3 := Tryd.sizeOf3
  v3 := Tryd.zeroValue3
  i3 := by kernel_rfl
  t4 := Tryd.underlying4
  a4 := Tryd.isAgg4
  z4 := Tryd.sizeOf4
  v4 := Tryd.zeroValue4
  i4 := by kernel_rfl
  t5 := Tryd.underlying5
  a5 := Tryd.isAgg5
  z5 := Tryd.sizeOf5
  v5 := Tryd.zeroValue5
  i5 := by kernel_rfl
  t22 := Tryd.underlying122
  a22 := Tryd.isAgg122
  z22 := Tryd.sizeOf122
  v22 := Tryd.zeroValue122
  i22 := by kernel_rfl
  t25 := Tryd.underlying70
  a25 := Tryd.isAgg70
  z25 := Tryd.sizeOf70
  v25 := Tryd.zeroValue70
  i25 := by kernel_rfl
  t27 := Tryd.underlying120
  a27 := Tryd.isAgg120
  z27 := Tryd.sizeOf120
  v27 := Tryd.zeroValue120
  i27 := by kernel_rfl
  t53 := Tryd.underlying156
  a53 := Tryd.isAgg156
  z53 := Tryd.sizeOf156
  v53 := Tryd.zeroValue156
  i53 := by kernel_rfl
  t54 := Tryd.underlying157
  a54 := Tryd.isAgg157
  z54 := Tryd.sizeOf157
  g0 := by kernel_rfl
  g1 := by kernel_rfl }
end Go.Proofs
namespace Go.V
open Go.Proofs
end Go.V
