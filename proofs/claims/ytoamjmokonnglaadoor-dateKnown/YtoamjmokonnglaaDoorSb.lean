/- What functions of the given program do in the ideal machine (JSb), and the plain laws of what they answer; the conditions stand in each theorem. -/
import Derived.Test.YtoamjmokonnglaaDoorSa
set_option linter.all false
set_option linter.unusedSectionVars false
set_option linter.unusedSimpArgs false
set_option linter.unusedVariables false
namespace Go.Proofs
open Go Go.Idl
variable {c : Nat} {h : Nat → Ob}
theorem srt_0 : pcR c 29 [sv 1, fv] h (List.range 1) 3 = some (.tup [], .arr 1 (us (srtL 0)), h 0, h 1, 3) := by kernel_rfl
theorem srt_1 : pcR c 29 [sv 2, fv] h (List.range 2) 3 = some (.tup [], .arr 1 (us (srtL 1)), h 0, h 1, 3) := by kernel_rfl
theorem srt_2 : pcR c 29 [sv 4, fv] h (List.range 4) 3 = some (.tup [], .arr 1 (us (srtL 2)), h 0, h 1, 3) := by kernel_rfl
theorem srt_3 : pcR c 29 [sv 8, fv] h (List.range 8) 3 = some (.tup [], .arr 1 (us (srtL 3)), h 0, h 1, 3) := by kernel_rfl
theorem srt_4 : pcR c 29 [sv 16, fv] h (List.range 16) 3 = some (.tup [], .arr 1 (us (srtL 4)), h 0, h 1, 4) := by kernel_rfl
end Go.Proofs
