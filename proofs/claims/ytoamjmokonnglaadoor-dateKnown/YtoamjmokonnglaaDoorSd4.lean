/- What functions of the given program do in the ideal machine (JSd4), and the plain laws of what they answer; the conditions stand in each theorem. -/
import Derived.Test.YtoamjmokonnglaaDoorSa
set_option linter.all false
set_option linter.unusedSectionVars false
set_option linter.unusedSimpArgs false
set_option linter.unusedVariables false
namespace Go.Proofs
open Go Go.Idl
variable {c : Nat} {h : Nat → Ob}
theorem p6_9 : pcR c 58 [sv 64, .int .i64 42, .int .i64 64, fv] h x6_6 8 = some (.tup [.int .i64 52, .int .i64 0], .arr 1 (us x6_6), h 0, h 1, 9) := by kernel_rfl
theorem p6_10 : pcR c 62 [sv 64, .int .i64 42, .int .i64 64, .int .i64 52, fv] h x6_6 9 = some (.tup [.int .i64 52, .bool false], .arr 1 (us x6_7), h 0, h 1, 9) := by kernel_rfl
theorem p6_11 : pcR c 39 [sv 64, .int .i64 42, .int .i64 52, .int .i64 7, fv] h x6_7 9 = some (.tup [], .arr 1 (us x6_8), h 0, h 1, 9) := by kernel_rfl
theorem p6_12 : pcR c 55 [sv 64, .int .i64 53, .int .i64 64, fv] h x6_8 9 = some (.tup [], .arr 1 (us x6_9), h 0, h 1, 9) := by kernel_rfl
end Go.Proofs
