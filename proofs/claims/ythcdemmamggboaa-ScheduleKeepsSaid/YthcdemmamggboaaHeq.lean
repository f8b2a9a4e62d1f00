import Derived.Test.YthcdemmamggboaaHsim
import Derived.Laws.StructEq
namespace Go.Proofs.Ythcdemmamggboaa
open Go.RowKit
theorem stint_eql (a0 a1 a2 a3 b0 b1 b2 b3 : Int) (w : World) : (binOp .eql 39 (.agg #[.int .i64 a0, .int .i64 a1, .int .i64 a2, .int .i64 a3]) (.agg #[.int .i64 b0, .int .i64 b1, .int .i64 b2, .int .i64 b3])).run Try.prog w = .ok (.bool (a0 == b0 && a1 == b1 && a2 == b2 && a3 == b3)) w := by
  have hS : Try.prog.underlying 39 = some (.struct (Try.prog.fieldsOf 39)) := by kernel_rfl
  have hp : Try.prog.stoodInHeld 39 = false := by kernel_rfl
  have u2 := Try.underlying2
  have u3 := Try.underlying3
  rw [run_eql_struct, show (10000 : Nat) = 9999 + 1 from rfl, run_equalIn_agg w 9999 39 _ _ hS hp]
  simp only [Program.fieldsOf, Try.underlying39]
  go_simp
  by_cases h0 : a0 = b0 <;> by_cases h1 : a1 = b1 <;> by_cases h2 : a2 = b2 <;> by_cases h3 : a3 = b3 <;> simp [h0, h1, h2, h3]
theorem stint_guard : Try.prog.eqGuardType Try.prog.depth 39 = false := by kernel_rfl
end Go.Proofs.Ythcdemmamggboaa
