/- What functions of the given program do in the ideal machine (JSd2), and the plain laws of what they answer; the conditions stand in each theorem. -/
import Derived.Test.YtoamjmokonnglaaDoorSa
set_option linter.all false
set_option linter.unusedSectionVars false
set_option linter.unusedSimpArgs false
set_option linter.unusedVariables false
namespace Go.Proofs
open Go Go.Idl
variable {c : Nat} {h : Nat → Ob}
theorem p6_5 : pcR c 39 [sv 64, .int .i64 12, .int .i64 34, .int .i64 7, fv] h x6_3 5 = some (.tup [], .arr 1 (us x6_4), h 0, h 1, 7) := by kernel_rfl
end Go.Proofs
