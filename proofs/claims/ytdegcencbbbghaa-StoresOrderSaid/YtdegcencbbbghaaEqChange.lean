import Derived.Test.YtdegcencbbbghaaProg
import Derived.Test.YtdegcencbbbghaaKinds
set_option linter.unusedVariables false
set_option linter.unusedSimpArgs false
namespace Go.Proofs.Ytdegcencbbbghaa
open Go.RowKit

theorem eqg_change (o : BinOp) (x y : Operand) (a0 b0 : ByteArray) (a1 b1 : Int) (a2 b2 : Bool) (w : World) : (eqGuard o 45 x y (.agg #[.string a0, .int .u32 a1, .bool a2]) (.agg #[.string b0, .int .u32 b1, .bool b2])).run Try.prog w = .ok () w :=
  run_eqGuard_agg w o _ x y _ _ (by kernel_rfl)
theorem eql_change (a0 b0 : ByteArray) (a1 b1 : Int) (a2 b2 : Bool) (w : World) : (binOp .eql 45 (.agg #[.string a0, .int .u32 a1, .bool a2]) (.agg #[.string b0, .int .u32 b1, .bool b2])).run Try.prog w = .ok (.bool (decide (a0 = b0) && (decide (a1 = b1) && decide (a2 = b2)))) w := by
  have u0 := Try.underlying9
  have a0_ := Try.isAgg9
  have z0 := Try.sizeOf9
  have u1 := Try.underlying27
  have a1_ := Try.isAgg27
  have z1 := Try.sizeOf27
  have u2 := Try.underlying4
  have a2_ := Try.isAgg4
  have z2 := Try.sizeOf4
  have hS : Try.prog.underlying 45 = some (.struct (Try.prog.fieldsOf 45)) := by kernel_rfl
  have hp : Try.prog.stoodInHeld 45 = false := by kernel_rfl
  rw [run_eql_struct, show (10000 : Nat) = 9999 + 1 from rfl, run_equalIn_agg w 9999 45 _ _ hS hp]
  simp only [Program.fieldsOf, Try.underlying45]
  go_simp
  by_cases h0 : a0 = b0 <;> by_cases h1 : a1 = b1 <;> by_cases h2 : a2 = b2 <;> simp [h0, h1, h2]
theorem neq_change (a0 b0 : ByteArray) (a1 b1 : Int) (a2 b2 : Bool) (w : World) : (binOp .neq 45 (.agg #[.string a0, .int .u32 a1, .bool a2]) (.agg #[.string b0, .int .u32 b1, .bool b2])).run Try.prog w = .ok (.bool (!(decide (a0 = b0) && (decide (a1 = b1) && decide (a2 = b2))))) w := by
  have u0 := Try.underlying9
  have a0_ := Try.isAgg9
  have z0 := Try.sizeOf9
  have u1 := Try.underlying27
  have a1_ := Try.isAgg27
  have z1 := Try.sizeOf27
  have u2 := Try.underlying4
  have a2_ := Try.isAgg4
  have z2 := Try.sizeOf4
  have hS : Try.prog.underlying 45 = some (.struct (Try.prog.fieldsOf 45)) := by kernel_rfl
  have hp : Try.prog.stoodInHeld 45 = false := by kernel_rfl
  rw [run_neq_struct, show (10000 : Nat) = 9999 + 1 from rfl, run_equalIn_agg w 9999 45 _ _ hS hp]
  simp only [Program.fieldsOf, Try.underlying45]
  go_simp
  by_cases h0 : a0 = b0 <;> by_cases h1 : a1 = b1 <;> by_cases h2 : a2 = b2 <;> simp [h0, h1, h2]

end Go.Proofs.Ytdegcencbbbghaa
