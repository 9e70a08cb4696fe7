import Derived.Test.YtanjgeacmpmjhaaGreatDoorProg
import Derived.Test.YtanjgeacmpmjhaaGreatDoorKinds
set_option linter.unusedVariables false
set_option linter.unusedSimpArgs false
namespace Go.Proofs.YtanjgeacmpmjhaaGreatDoor
open Go.RowKit

theorem eqg_row (o : BinOp) (x y : Operand) (a0 b0 : ByteArray) (a1 b1 : Int) (w : World) : (eqGuard o 44 x y (.agg #[.string a0, .int .u32 a1]) (.agg #[.string b0, .int .u32 b1])).run Tryz.prog w = .ok () w :=
  run_eqGuard_agg w o _ x y _ _ (by kernel_rfl)
theorem eql_row (a0 b0 : ByteArray) (a1 b1 : Int) (w : World) : (binOp .eql 44 (.agg #[.string a0, .int .u32 a1]) (.agg #[.string b0, .int .u32 b1])).run Tryz.prog w = .ok (.bool (decide (a0 = b0) && decide (a1 = b1))) w := by
  have u0 := Tryz.underlying9
  have a0_ := Tryz.isAgg9
  have z0 := Tryz.sizeOf9
  have u1 := Tryz.underlying42
  have a1_ := Tryz.isAgg42
  have z1 := Tryz.sizeOf42
  have hS : Tryz.prog.underlying 44 = some (.struct (Tryz.prog.fieldsOf 44)) := by kernel_rfl
  have hp : Tryz.prog.stoodInHeld 44 = false := by kernel_rfl
  rw [run_eql_struct, show (10000 : Nat) = 9999 + 1 from rfl, run_equalIn_agg w 9999 44 _ _ hS hp]
  simp only [Program.fieldsOf, Tryz.underlying44]
  go_simp
  by_cases h0 : a0 = b0 <;> by_cases h1 : a1 = b1 <;> simp [h0, h1]
theorem neq_row (a0 b0 : ByteArray) (a1 b1 : Int) (w : World) : (binOp .neq 44 (.agg #[.string a0, .int .u32 a1]) (.agg #[.string b0, .int .u32 b1])).run Tryz.prog w = .ok (.bool (!(decide (a0 = b0) && decide (a1 = b1)))) w := by
  have u0 := Tryz.underlying9
  have a0_ := Tryz.isAgg9
  have z0 := Tryz.sizeOf9
  have u1 := Tryz.underlying42
  have a1_ := Tryz.isAgg42
  have z1 := Tryz.sizeOf42
  have hS : Tryz.prog.underlying 44 = some (.struct (Tryz.prog.fieldsOf 44)) := by kernel_rfl
  have hp : Tryz.prog.stoodInHeld 44 = false := by kernel_rfl
  rw [run_neq_struct, show (10000 : Nat) = 9999 + 1 from rfl, run_equalIn_agg w 9999 44 _ _ hS hp]
  simp only [Program.fieldsOf, Tryz.underlying44]
  go_simp
  by_cases h0 : a0 = b0 <;> by_cases h1 : a1 = b1 <;> simp [h0, h1]

end Go.Proofs.YtanjgeacmpmjhaaGreatDoor
