import Derived.Test.YtimadkbdkdeepaaDoorProg
import Derived.Test.YtimadkbdkdeepaaDoorKinds
set_option linter.unusedVariables false
set_option linter.unusedSimpArgs false
namespace Go.Proofs.YtimadkbdkdeepaaDoor
open Go.RowKit

theorem eqg_span (o : BinOp) (x y : Operand) (a0 b0 : ByteArray) (a1 b1 : ByteArray) (w : World) : (eqGuard o 36 x y (.agg #[.string a0, .string a1]) (.agg #[.string b0, .string b1])).run Tryd.prog w = .ok () w :=
  run_eqGuard_agg w o _ x y _ _ (by kernel_rfl)
theorem eql_span (a0 b0 : ByteArray) (a1 b1 : ByteArray) (w : World) : (binOp .eql 36 (.agg #[.string a0, .string a1]) (.agg #[.string b0, .string b1])).run Tryd.prog w = .ok (.bool (decide (a0 = b0) && decide (a1 = b1))) w := by
  have u0 := Tryd.underlying9
  have a0_ := Tryd.isAgg9
  have z0 := Tryd.sizeOf9
  have hS : Tryd.prog.underlying 36 = some (.struct (Tryd.prog.fieldsOf 36)) := by kernel_rfl
  have hp : Tryd.prog.stoodInHeld 36 = false := by kernel_rfl
  rw [run_eql_struct, show (10000 : Nat) = 9999 + 1 from rfl, run_equalIn_agg w 9999 36 _ _ hS hp]
  simp only [Program.fieldsOf, Tryd.underlying36]
  go_simp
  by_cases h0 : a0 = b0 <;> by_cases h1 : a1 = b1 <;> simp [h0, h1]
theorem neq_span (a0 b0 : ByteArray) (a1 b1 : ByteArray) (w : World) : (binOp .neq 36 (.agg #[.string a0, .string a1]) (.agg #[.string b0, .string b1])).run Tryd.prog w = .ok (.bool (!(decide (a0 = b0) && decide (a1 = b1)))) w := by
  have u0 := Tryd.underlying9
  have a0_ := Tryd.isAgg9
  have z0 := Tryd.sizeOf9
  have hS : Tryd.prog.underlying 36 = some (.struct (Tryd.prog.fieldsOf 36)) := by kernel_rfl
  have hp : Tryd.prog.stoodInHeld 36 = false := by kernel_rfl
  rw [run_neq_struct, show (10000 : Nat) = 9999 + 1 from rfl, run_equalIn_agg w 9999 36 _ _ hS hp]
  simp only [Program.fieldsOf, Tryd.underlying36]
  go_simp
  by_cases h0 : a0 = b0 <;> by_cases h1 : a1 = b1 <;> simp [h0, h1]

end Go.Proofs.YtimadkbdkdeepaaDoor
