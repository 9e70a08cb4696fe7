import Derived.Test.YtanjgeacmpmjhaaGreatDoorProg
import Derived.Test.YtanjgeacmpmjhaaGreatDoorKinds
set_option linter.unusedVariables false
set_option linter.unusedSimpArgs false
namespace Go.Proofs.YtanjgeacmpmjhaaGreatDoor
open Go.RowKit

theorem eqg_change (o : BinOp) (x y : Operand) (a0 b0 : ByteArray) (a1 b1 : Int) (a2 b2 : Bool) (w : World) : (eqGuard o 128 x y (.agg #[.string a0, .int .u32 a1, .bool a2]) (.agg #[.string b0, .int .u32 b1, .bool b2])).run Tryz.prog w = .ok () w :=
  run_eqGuard_agg w o _ x y _ _ (by kernel_rfl)
theorem eql_change (a0 b0 : ByteArray) (a1 b1 : Int) (a2 b2 : Bool) (w : World) : (binOp .eql 128 (.agg #[.string a0, .int .u32 a1, .bool a2]) (.agg #[.string b0, .int .u32 b1, .bool b2])).run Tryz.prog w = .ok (.bool (decide (a0 = b0) && (decide (a1 = b1) && decide (a2 = b2)))) w := by
  have u0 := Tryz.underlying9
  have a0_ := Tryz.isAgg9
  have z0 := Tryz.sizeOf9
  have u1 := Tryz.underlying42
  have a1_ := Tryz.isAgg42
  have z1 := Tryz.sizeOf42
  have u2 := Tryz.underlying4
  have a2_ := Tryz.isAgg4
  have z2 := Tryz.sizeOf4
  have hS : Tryz.prog.underlying 128 = some (.struct (Tryz.prog.fieldsOf 128)) := by kernel_rfl
  have hp : Tryz.prog.stoodInHeld 128 = false := by kernel_rfl
  rw [run_eql_struct, show (10000 : Nat) = 9999 + 1 from rfl, run_equalIn_agg w 9999 128 _ _ hS hp]
  simp only [Program.fieldsOf, Tryz.underlying128]
  go_simp
  by_cases h0 : a0 = b0 <;> by_cases h1 : a1 = b1 <;> by_cases h2 : a2 = b2 <;> simp [h0, h1, h2]
theorem neq_change (a0 b0 : ByteArray) (a1 b1 : Int) (a2 b2 : Bool) (w : World) : (binOp .neq 128 (.agg #[.string a0, .int .u32 a1, .bool a2]) (.agg #[.string b0, .int .u32 b1, .bool b2])).run Tryz.prog w = .ok (.bool (!(decide (a0 = b0) && (decide (a1 = b1) && decide (a2 = b2))))) w := by
  have u0 := Tryz.underlying9
  have a0_ := Tryz.isAgg9
  have z0 := Tryz.sizeOf9
  have u1 := Tryz.underlying42
  have a1_ := Tryz.isAgg42
  have z1 := Tryz.sizeOf42
  have u2 := Tryz.underlying4
  have a2_ := Tryz.isAgg4
  have z2 := Tryz.sizeOf4
  have hS : Tryz.prog.underlying 128 = some (.struct (Tryz.prog.fieldsOf 128)) := by kernel_rfl
  have hp : Tryz.prog.stoodInHeld 128 = false := by kernel_rfl
  rw [run_neq_struct, show (10000 : Nat) = 9999 + 1 from rfl, run_equalIn_agg w 9999 128 _ _ hS hp]
  simp only [Program.fieldsOf, Tryz.underlying128]
  go_simp
  by_cases h0 : a0 = b0 <;> by_cases h1 : a1 = b1 <;> by_cases h2 : a2 = b2 <;> simp [h0, h1, h2]

end Go.Proofs.YtanjgeacmpmjhaaGreatDoor
