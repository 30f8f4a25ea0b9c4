/- What functions of the given program do in the ideal machine (JSc), and the plain laws of what they answer; the conditions stand in each theorem. -/
import Derived.Test.YtoamjmokonnglaaDoorSa
set_option linter.all false
set_option linter.unusedSectionVars false
set_option linter.unusedSimpArgs false
set_option linter.unusedVariables false
namespace Go.Proofs
open Go Go.Idl
variable {c : Nat} {h : Nat → Ob}
theorem srt_5 : pcR c 29 [sv 32, fv] h (List.range 32) 3 = some (.tup [], .arr 1 (us (srtL 5)), h 0, h 1, 6) := by kernel_rfl
end Go.Proofs
