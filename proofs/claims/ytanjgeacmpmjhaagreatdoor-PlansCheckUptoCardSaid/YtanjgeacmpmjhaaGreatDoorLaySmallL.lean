import Derived.Shelf.Lays
import Derived.Test.YtanjgeacmpmjhaaGreatDoorProg
set_option linter.unusedVariables false
namespace Go.Proofs.YtanjgeacmpmjhaaGreatDoor
open Go.Shelf
def smallL_ren : Go.Shelf.Ren := ⟨fun | 283 => 260 | n => n, fun | 3 => 3 | 9 => 9 | 4 => 4 | n => n, fun | n => n⟩
theorem smallL : Go.Proofs.Lays.n283 Tryz.prog smallL_ren := {
  mixed := by kernel_rfl
  f283 := Tryz.func260.trans (congrArg some (by kernel_rfl))
  t3 := Tryz.underlying3
  a3 := Tryz.isAgg3
  z3 := Tryz.sizeOf3
  v3 := Tryz.zeroValue3
  t4 := Tryz.underlying4
  a4 := Tryz.isAgg4
  z4 := Tryz.sizeOf4
  v4 := Tryz.zeroValue4
  t9 := Tryz.underlying9
  a9 := Tryz.isAgg9
  z9 := Tryz.sizeOf9
  v9 := Tryz.zeroValue9 }
end Go.Proofs.YtanjgeacmpmjhaaGreatDoor
