import Derived.Shelf.SlLaysE
import Derived.Test.YtanjgeacmpmjhaaGreatDoorProg
set_option linter.unusedVariables false
namespace Go.Proofs.YtanjgeacmpmjhaaGreatDoor
open Go.Shelf
def compactU_ren : Go.Shelf.Ren := ⟨fun | 43 => 149 | n => n, fun | 22 => 91 | 23 => 42 | 3 => 3 | 4 => 4 | 0 => 0 | n => n, fun | n => n⟩
theorem compactU : Go.Proofs.SlLaysE.n43 Tryz.prog compactU_ren := {
  mixed := by kernel_rfl
  f43 := ⟨Tryz.f149.name, by decide, Tryz.func149.trans (congrArg some (by kernel_rfl))⟩
  t0 := Tryz.underlying0
  a0 := Tryz.isAgg0
  z0 := Tryz.sizeOf0
  v0 := Tryz.zeroValue0
  t3 := Tryz.underlying3
  a3 := Tryz.isAgg3
  z3 := Tryz.sizeOf3
  v3 := Tryz.zeroValue3
  t4 := Tryz.underlying4
  a4 := Tryz.isAgg4
  z4 := Tryz.sizeOf4
  v4 := Tryz.zeroValue4
  t22 := Tryz.underlying91
  a22 := Tryz.isAgg91
  z22 := Tryz.sizeOf91
  v22 := Tryz.zeroValue91
  a23 := Tryz.isAgg42
  z23 := Tryz.sizeOf42 }
end Go.Proofs.YtanjgeacmpmjhaaGreatDoor
