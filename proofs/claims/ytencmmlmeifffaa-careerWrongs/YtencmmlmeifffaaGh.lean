/- What functions of the given program do in the ideal machine (G32), and the plain laws of what they answer; the conditions stand in each theorem. -/
import Derived.Test.YtencmmlmeifffaaGb
import Derived.Test.YtencmmlmeifffaaHa
set_option linter.all false
set_option linter.unusedSectionVars false
set_option linter.unusedSimpArgs false
set_option linter.unusedVariables false
namespace Go.Proofs
open Go Go.Idl
set_option linter.unusedSimpArgs false
variable {b : Bool}
def OkP (r : Roll) (x : Rec) (y : Int) (c : Rec) (z : Int) : Prop :=
  ¬ (z = y ∧ (r.fs[x.town.toNat]!)[c.town.toNat]! = true) ∧ ¬ (0 ≤ x.office ∧ x.office < c.office ∧ z - y < r.os[c.office.toNat]!.gap) ∧ ¬ (0 ≤ x.office ∧ c.office = x.office ∧ z ≠ y ∧ max (z - y) (y - z) < r.os[x.office.toNat]!.again)
def ManL (r : Roll) (l : List Int) (m : Nat) : Prop := l[m]! ≤ l[r.ms.length + m]! ∧ l[r.ms.length + m]! ≤ l[m]! + r.life
def RecL (r : Roll) (l : List Int) (i : Nat) : Prop :=
  (r.cs[i]!.kin = true → r.plo ≤ l[r.cs[i]!.child.toNat]! - l[r.cs[i]!.man.toNat]! ∧ l[r.cs[i]!.child.toNat]! - l[r.cs[i]!.man.toNat]! ≤ r.phi ∧ l[r.cs[i]!.child.toNat]! ≤ l[r.ms.length + r.cs[i]!.man.toNat]! + 1) ∧
  (r.cs[i]!.kin = false → l[r.cs[i]!.man.toNat]! ≤ l[2 * r.ms.length + i]! ∧ l[2 * r.ms.length + i]! ≤ l[r.ms.length + r.cs[i]!.man.toNat]! ∧ (0 ≤ r.cs[i]!.office → r.os[r.cs[i]!.office.toNat]!.age ≤ l[2 * r.ms.length + i]! - l[r.cs[i]!.man.toNat]!))
def PairL (r : Roll) (l : List Int) (i k : Nat) : Prop := k ≠ i → r.cs[i]!.kin = false → r.cs[k]!.kin = false → r.cs[k]!.man = r.cs[i]!.man → OkP r r.cs[i]! l[2 * r.ms.length + i]! r.cs[k]! l[2 * r.ms.length + k]!
def LivedL (r : Roll) (l : List Int) : Prop := (∀ m, m < r.ms.length → ManL r l m) ∧ (∀ i, i < r.cs.length → RecL r l i) ∧ ∀ i k, i < r.cs.length → k < r.cs.length → PairL r l i k
end Go.Proofs
