/- What functions of the given program do in the ideal machine (JM), and the plain laws of what they answer; the conditions stand in each theorem. -/
import Derived.Test.YtoamjmokonnglaaDoorCl
set_option linter.all false
set_option linter.unusedSectionVars false
set_option linter.unusedSimpArgs false
set_option linter.unusedVariables false
namespace Go.Proofs
open Go Go.Idl
theorem lw3 : pureI Tryd.prog AL (exec Tryd.prog AL 1000 none) 3 [] = some (.bool true) := by kernel_rfl
end Go.Proofs
