/- What functions of the given program do in the ideal machine (JSd3), and the plain laws of what they answer; the conditions stand in each theorem. -/
import Derived.Test.YtoamjmokonnglaaDoorSa
set_option linter.all false
set_option linter.unusedSectionVars false
set_option linter.unusedSimpArgs false
set_option linter.unusedVariables false
namespace Go.Proofs
open Go Go.Idl
variable {c : Nat} {h : Nat → Ob}
theorem p6_6 : pcR c 58 [sv 64, .int .i64 35, .int .i64 64, fv] h x6_4 7 = some (.tup [.int .i64 56, .int .i64 0], .arr 1 (us x6_4), h 0, h 1, 8) := by kernel_rfl
theorem p6_7 : pcR c 62 [sv 64, .int .i64 35, .int .i64 64, .int .i64 56, fv] h x6_4 8 = some (.tup [.int .i64 41, .bool false], .arr 1 (us x6_5), h 0, h 1, 8) := by kernel_rfl
theorem p6_8 : pcR c 39 [sv 64, .int .i64 35, .int .i64 41, .int .i64 7, fv] h x6_5 8 = some (.tup [], .arr 1 (us x6_6), h 0, h 1, 8) := by kernel_rfl
end Go.Proofs
