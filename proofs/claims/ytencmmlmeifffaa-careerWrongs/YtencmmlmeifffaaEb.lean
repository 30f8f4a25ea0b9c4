/- What functions of the given program do in the ideal machine (AW4), and the plain laws of what they answer; the conditions stand in each theorem. -/
import Derived.Test.YtencmmlmeifffaaEa
set_option linter.all false
set_option linter.unusedSectionVars false
set_option linter.unusedSimpArgs false
set_option linter.unusedVariables false
namespace Go.Proofs
open Go Go.Idl
theorem aw16 : pureI Try.prog AN (exec Try.prog AN 1000 none) 16 [] = some (.bool true) := by kernel_rfl
end Go.Proofs
