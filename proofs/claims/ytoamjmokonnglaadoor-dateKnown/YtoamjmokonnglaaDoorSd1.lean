/- What functions of the given program do in the ideal machine (JSd1), and the plain laws of what they answer; the conditions stand in each theorem. -/
import Derived.Test.YtoamjmokonnglaaDoorSa
set_option linter.all false
set_option linter.unusedSectionVars false
set_option linter.unusedSimpArgs false
set_option linter.unusedVariables false
namespace Go.Proofs
open Go Go.Idl
variable {c : Nat} {h : Nat → Ob}
theorem p6_3 : pcR c 58 [sv 64, .int .i64 12, .int .i64 64, fv] h x6_2 4 = some (.tup [.int .i64 38, .int .i64 0], .arr 1 (us x6_2), h 0, h 1, 5) := by kernel_rfl
theorem p6_4 : pcR c 62 [sv 64, .int .i64 12, .int .i64 64, .int .i64 38, fv] h x6_2 5 = some (.tup [.int .i64 34, .bool false], .arr 1 (us x6_3), h 0, h 1, 5) := by kernel_rfl
end Go.Proofs
