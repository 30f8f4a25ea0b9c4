/- What functions of the given program do in the ideal machine (C5w), and the plain laws of what they answer; the conditions stand in each theorem. -/
import Derived.Test.YtencmmlmeifffaaDoorCa
set_option linter.all false
set_option linter.unusedSectionVars false
set_option linter.unusedSimpArgs false
set_option linter.unusedVariables false
namespace Go.Proofs
open Go Go.Idl
theorem aw7 : pureI Tryd.prog AN (exec Tryd.prog AN 1000 none) 7 [] = some (.bool true) := by kernel_rfl
end Go.Proofs
