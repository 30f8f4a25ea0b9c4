/- What functions of the given program do in the ideal machine (JSd0), and the plain laws of what they answer; the conditions stand in each theorem. -/
import Derived.Test.YtoamjmokonnglaaDoorSa
set_option linter.all false
set_option linter.unusedSectionVars false
set_option linter.unusedSimpArgs false
set_option linter.unusedVariables false
namespace Go.Proofs
open Go Go.Idl
variable {c : Nat} {h : Nat → Ob}
theorem p6_0 : pcR c 58 [sv 64, .int .i64 0, .int .i64 64, fv] h x6_0 3 = some (.tup [.int .i64 33, .int .i64 0], .arr 1 (us x6_0), h 0, h 1, 4) := by kernel_rfl
theorem p6_1 : pcR c 62 [sv 64, .int .i64 0, .int .i64 64, .int .i64 33, fv] h x6_0 4 = some (.tup [.int .i64 11, .bool false], .arr 1 (us x6_1), h 0, h 1, 4) := by kernel_rfl
theorem p6_2 : pcR c 39 [sv 64, .int .i64 0, .int .i64 11, .int .i64 7, fv] h x6_1 4 = some (.tup [], .arr 1 (us x6_2), h 0, h 1, 4) := by kernel_rfl
end Go.Proofs
