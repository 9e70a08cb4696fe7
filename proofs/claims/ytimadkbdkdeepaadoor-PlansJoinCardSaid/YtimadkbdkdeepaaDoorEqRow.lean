import Derived.Test.YtimadkbdkdeepaaDoorProg
import Derived.Test.YtimadkbdkdeepaaDoorKinds
set_option linter.unusedVariables false
set_option linter.unusedSimpArgs false
namespace Go.Proofs.YtimadkbdkdeepaaDoor
open Go.RowKit

theorem eqg_row (o : BinOp) (x y : Operand) (a0 b0 : ByteArray) (a1 b1 : Int) (w : World) : (eqGuard o 34 x y (.agg #[.string a0, .int .u32 a1]) (.agg #[.string b0, .int .u32 b1])).run Tryd.prog w = .ok () w :=
  run_eqGuard_agg w o _ x y _ _ (by kernel_rfl)
theorem eql_row (a0 b0 : ByteArray) (a1 b1 : Int) (w : World) : (binOp .eql 34 (.agg #[.string a0, .int .u32 a1]) (.agg #[.string b0, .int .u32 b1])).run Tryd.prog w = .ok (.bool (decide (a0 = b0) && decide (a1 = b1))) w := by
  have u0 := Tryd.underlying9
  have a0_ := Tryd.isAgg9
  have z0 := Tryd.sizeOf9
  have u1 := Tryd.underlying24
  have a1_ := Tryd.isAgg24
  have z1 := Tryd.sizeOf24
  have hS : Tryd.prog.underlying 34 = some (.struct (Tryd.prog.fieldsOf 34)) := by kernel_rfl
  have hp : Tryd.prog.stoodInHeld 34 = false := by kernel_rfl
  rw [run_eql_struct, show (10000 : Nat) = 9999 + 1 from rfl, run_equalIn_agg w 9999 34 _ _ hS hp]
  simp only [Program.fieldsOf, Tryd.underlying34]
  go_simp
  by_cases h0 : a0 = b0 <;> by_cases h1 : a1 = b1 <;> simp [h0, h1]
theorem neq_row (a0 b0 : ByteArray) (a1 b1 : Int) (w : World) : (binOp .neq 34 (.agg #[.string a0, .int .u32 a1]) (.agg #[.string b0, .int .u32 b1])).run Tryd.prog w = .ok (.bool (!(decide (a0 = b0) && decide (a1 = b1)))) w := by
  have u0 := Tryd.underlying9
  have a0_ := Tryd.isAgg9
  have z0 := Tryd.sizeOf9
  have u1 := Tryd.underlying24
  have a1_ := Tryd.isAgg24
  have z1 := Tryd.sizeOf24
  have hS : Tryd.prog.underlying 34 = some (.struct (Tryd.prog.fieldsOf 34)) := by kernel_rfl
  have hp : Tryd.prog.stoodInHeld 34 = false := by kernel_rfl
  rw [run_neq_struct, show (10000 : Nat) = 9999 + 1 from rfl, run_equalIn_agg w 9999 34 _ _ hS hp]
  simp only [Program.fieldsOf, Tryd.underlying34]
  go_simp
  by_cases h0 : a0 = b0 <;> by_cases h1 : a1 = b1 <;> simp [h0, h1]

end Go.Proofs.YtimadkbdkdeepaaDoor
