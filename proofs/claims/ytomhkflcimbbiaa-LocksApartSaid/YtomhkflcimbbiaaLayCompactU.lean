import Derived.Shelf.SlLaysE
import Derived.Test.YtomhkflcimbbiaaProg
set_option linter.unusedVariables false
namespace Go.Proofs.Ytomhkflcimbbiaa
open Go.Shelf
def compactU_ren : Go.Shelf.Ren := ⟨fun | 43 => 34 | n => n, fun | 22 => 30 | 23 => 22 | 3 => 3 | 4 => 4 | 0 => 0 | n => n, fun | n => n⟩
theorem compactU : Go.Proofs.SlLaysE.n43 Try.prog compactU_ren := {
  mixed := by kernel_rfl
  f43 := ⟨Try.f34.name, by decide, Try.func34.trans (congrArg some (by kernel_rfl))⟩
  t0 := Try.underlying0
  a0 := Try.isAgg0
  z0 := Try.sizeOf0
  v0 := Try.zeroValue0
  t3 := Try.underlying3
  a3 := Try.isAgg3
  z3 := Try.sizeOf3
  v3 := Try.zeroValue3
  t4 := Try.underlying4
  a4 := Try.isAgg4
  z4 := Try.sizeOf4
  v4 := Try.zeroValue4
  t22 := Try.underlying30
  a22 := Try.isAgg30
  z22 := Try.sizeOf30
  v22 := Try.zeroValue30
  a23 := Try.isAgg22
  z23 := Try.sizeOf22 }
end Go.Proofs.Ytomhkflcimbbiaa
