/-
  No cell of these rows narrows 'for every input' (looked for: loops, veiled, ifaces, maps, wideKeys, modest, calm, conditions, laid).
  DERIVED. THE GIVEN ROWS OF THIS SEAT. 10 by the template 'for every input the law returns true; each argument reads behind the call as it read before'; 0 by the template 'total and deterministic' (their statements: YtoamjmokonnglaaTotals.lean).
  GIVEN WITH THE SEED: the statements are not yours to turn. If you find one false, say at which input.
  Laid BY PROGRAM, IN A SANDBOX (cutbox-rows.mjs): the forced cells as the released guide's own fill.sh prints them over the translation ea398cbe69719e1d… (all of the seat's roots in one cut). By AI agents, Wed Nov 11 2026. No macro, syntax, notation, axiom, sorry.
-/
import Derived.Test.YtoamjmokonnglaaChecked
import GoSem.Claim
import GoSem.ClaimJoined
import GoSem.ClaimMapViews
import Derived.JoinedTies
import Derived.KernelRfl
namespace Go.Proofs.Ytoamjmokonnglaa
/- THE CELL 'sum', in the pinned program and in every row, IS THE sha256 OF THE DUMP (.gsa) THAT YtoamjmokonnglaaProg.lean LOADS. Nothing in Lean hashes anything: it is a label: what it is worth is what the hold of that sum in a sandbox is worth. -/
noncomputable def Try.pinned : Pinned := { name := "ytoamjmokonnglaa", sum := "ea398cbe69719e1d49d90336f5eb504dd546e39838b735475ae1c83a9bb5bfc8", checked := Try.checked }
namespace Rows
def none {H : Type} : Left H := { results := [], args := [] }

/-- 'cippuslaw05.DateWrong': WHATEVER THE INPUT: true; the input reads as it did. -/
def dateWrongSpec : ChangeSpec := { name := "dateWrong", fn := fun _ => fun
  | [d1, d2, d3] => { results := [.lit (.bool true)], args := [d1, d2, d3] }
  | _ => none }
def dateWrongRow : OpenClaim := { program := "ytoamjmokonnglaa", sum := "ea398cbe69719e1d49d90336f5eb504dd546e39838b735475ae1c83a9bb5bfc8", func := "cippus/cippuslaw05.DateWrong", spec := "dateWrong", unfollowed := true, recurses := true, apart := false }
def DateWrongSaid : Prop := dateWrongRow.holds Try.pinned (OpenSpec.ofChange dateWrongSpec)

/-- ITS FALSE NEIGHBOUR: 'it returns false'. Refute it at one input. -/
def dateWrongWrong : ChangeSpec := { name := "dateWrong", fn := fun _ => fun
  | [d1, d2, d3] => { results := [.lit (.bool false)], args := [d1, d2, d3] }
  | _ => none }
def DateWrongWrongFalsely : Prop := dateWrongRow.holds Try.pinned (OpenSpec.ofChange dateWrongWrong)

/-- 'cippuslaw05.DateShifted': WHATEVER THE INPUT: true; the input reads as it did. -/
def dateShiftedSpec : ChangeSpec := { name := "dateShifted", fn := fun _ => fun
  | [d] => { results := [.lit (.bool true)], args := [d] }
  | _ => none }
def dateShiftedRow : OpenClaim := { program := "ytoamjmokonnglaa", sum := "ea398cbe69719e1d49d90336f5eb504dd546e39838b735475ae1c83a9bb5bfc8", func := "cippus/cippuslaw05.DateShifted", spec := "dateShifted", unfollowed := true, recurses := true, apart := false }
def DateShiftedSaid : Prop := dateShiftedRow.holds Try.pinned (OpenSpec.ofChange dateShiftedSpec)

/-- ITS FALSE NEIGHBOUR: 'it returns false'. Refute it at one input. -/
def dateShiftedWrong : ChangeSpec := { name := "dateShifted", fn := fun _ => fun
  | [d] => { results := [.lit (.bool false)], args := [d] }
  | _ => none }
def DateShiftedWrongFalsely : Prop := dateShiftedRow.holds Try.pinned (OpenSpec.ofChange dateShiftedWrong)

/-- 'cippuslaw05.DateOrder': WHATEVER THE INPUT: true; the input reads as it did. -/
def dateOrderSpec : ChangeSpec := { name := "dateOrder", fn := fun _ => fun
  | [d] => { results := [.lit (.bool true)], args := [d] }
  | _ => none }
def dateOrderRow : OpenClaim := { program := "ytoamjmokonnglaa", sum := "ea398cbe69719e1d49d90336f5eb504dd546e39838b735475ae1c83a9bb5bfc8", func := "cippus/cippuslaw05.DateOrder", spec := "dateOrder", unfollowed := true, recurses := true, apart := false }
def DateOrderSaid : Prop := dateOrderRow.holds Try.pinned (OpenSpec.ofChange dateOrderSpec)

/-- ITS FALSE NEIGHBOUR: 'it returns false'. Refute it at one input. -/
def dateOrderWrong : ChangeSpec := { name := "dateOrder", fn := fun _ => fun
  | [d] => { results := [.lit (.bool false)], args := [d] }
  | _ => none }
def DateOrderWrongFalsely : Prop := dateOrderRow.holds Try.pinned (OpenSpec.ofChange dateOrderWrong)

/-- 'cippuslaw05.DateWrongs': WHATEVER THE INPUT: true; the input reads as it did. -/
def dateWrongsSpec : ChangeSpec := { name := "dateWrongs", fn := fun _ => fun
  | [d] => { results := [.lit (.bool true)], args := [d] }
  | _ => none }
def dateWrongsRow : OpenClaim := { program := "ytoamjmokonnglaa", sum := "ea398cbe69719e1d49d90336f5eb504dd546e39838b735475ae1c83a9bb5bfc8", func := "cippus/cippuslaw05.DateWrongs", spec := "dateWrongs", unfollowed := true, recurses := true, apart := false }
def DateWrongsSaid : Prop := dateWrongsRow.holds Try.pinned (OpenSpec.ofChange dateWrongsSpec)

/-- ITS FALSE NEIGHBOUR: 'it returns false'. Refute it at one input. -/
def dateWrongsWrong : ChangeSpec := { name := "dateWrongs", fn := fun _ => fun
  | [d] => { results := [.lit (.bool false)], args := [d] }
  | _ => none }
def DateWrongsWrongFalsely : Prop := dateWrongsRow.holds Try.pinned (OpenSpec.ofChange dateWrongsWrong)

/-- 'cippuslaw05.DateYears': WHATEVER THE INPUT: true; the input reads as it did. -/
def dateYearsSpec : ChangeSpec := { name := "dateYears", fn := fun _ => fun
  | [d1, d2, d3] => { results := [.lit (.bool true)], args := [d1, d2, d3] }
  | _ => none }
def dateYearsRow : OpenClaim := { program := "ytoamjmokonnglaa", sum := "ea398cbe69719e1d49d90336f5eb504dd546e39838b735475ae1c83a9bb5bfc8", func := "cippus/cippuslaw05.DateYears", spec := "dateYears", unfollowed := true, recurses := true, apart := false }
def DateYearsSaid : Prop := dateYearsRow.holds Try.pinned (OpenSpec.ofChange dateYearsSpec)

/-- ITS FALSE NEIGHBOUR: 'it returns false'. Refute it at one input. -/
def dateYearsWrong : ChangeSpec := { name := "dateYears", fn := fun _ => fun
  | [d1, d2, d3] => { results := [.lit (.bool false)], args := [d1, d2, d3] }
  | _ => none }
def DateYearsWrongFalsely : Prop := dateYearsRow.holds Try.pinned (OpenSpec.ofChange dateYearsWrong)

/-- 'cippuslaw05.DateCuts': WHATEVER THE INPUT: true; the input reads as it did. -/
def dateCutsSpec : ChangeSpec := { name := "dateCuts", fn := fun _ => fun
  | [d1, d2, d3, d4, d5, d6] => { results := [.lit (.bool true)], args := [d1, d2, d3, d4, d5, d6] }
  | _ => none }
def dateCutsRow : OpenClaim := { program := "ytoamjmokonnglaa", sum := "ea398cbe69719e1d49d90336f5eb504dd546e39838b735475ae1c83a9bb5bfc8", func := "cippus/cippuslaw05.DateCuts", spec := "dateCuts", unfollowed := true, recurses := true, apart := false }
def DateCutsSaid : Prop := dateCutsRow.holds Try.pinned (OpenSpec.ofChange dateCutsSpec)

/-- ITS FALSE NEIGHBOUR: 'it returns false'. Refute it at one input. -/
def dateCutsWrong : ChangeSpec := { name := "dateCuts", fn := fun _ => fun
  | [d1, d2, d3, d4, d5, d6] => { results := [.lit (.bool false)], args := [d1, d2, d3, d4, d5, d6] }
  | _ => none }
def DateCutsWrongFalsely : Prop := dateCutsRow.holds Try.pinned (OpenSpec.ofChange dateCutsWrong)

/-- 'cippuslaw05.DateTold': WHATEVER THE INPUT: true; the input reads as it did. -/
def dateToldSpec : ChangeSpec := { name := "dateTold", fn := fun _ => fun
  | [d] => { results := [.lit (.bool true)], args := [d] }
  | _ => none }
def dateToldRow : OpenClaim := { program := "ytoamjmokonnglaa", sum := "ea398cbe69719e1d49d90336f5eb504dd546e39838b735475ae1c83a9bb5bfc8", func := "cippus/cippuslaw05.DateTold", spec := "dateTold", unfollowed := true, recurses := true, apart := false }
def DateToldSaid : Prop := dateToldRow.holds Try.pinned (OpenSpec.ofChange dateToldSpec)

/-- ITS FALSE NEIGHBOUR: 'it returns false'. Refute it at one input. -/
def dateToldWrong : ChangeSpec := { name := "dateTold", fn := fun _ => fun
  | [d] => { results := [.lit (.bool false)], args := [d] }
  | _ => none }
def DateToldWrongFalsely : Prop := dateToldRow.holds Try.pinned (OpenSpec.ofChange dateToldWrong)

/-- 'cippuslaw05.DateTrue': WHATEVER THE INPUT: true; the input reads as it did. -/
def dateTrueSpec : ChangeSpec := { name := "dateTrue", fn := fun _ => fun
  | [d] => { results := [.lit (.bool true)], args := [d] }
  | _ => none }
def dateTrueRow : OpenClaim := { program := "ytoamjmokonnglaa", sum := "ea398cbe69719e1d49d90336f5eb504dd546e39838b735475ae1c83a9bb5bfc8", func := "cippus/cippuslaw05.DateTrue", spec := "dateTrue", unfollowed := true, recurses := true, apart := false }
def DateTrueSaid : Prop := dateTrueRow.holds Try.pinned (OpenSpec.ofChange dateTrueSpec)

/-- ITS FALSE NEIGHBOUR: 'it returns false'. Refute it at one input. -/
def dateTrueWrong : ChangeSpec := { name := "dateTrue", fn := fun _ => fun
  | [d] => { results := [.lit (.bool false)], args := [d] }
  | _ => none }
def DateTrueWrongFalsely : Prop := dateTrueRow.holds Try.pinned (OpenSpec.ofChange dateTrueWrong)

/-- 'cippuslaw05.DateEnds': WHATEVER THE INPUT: true; the input reads as it did. -/
def dateEndsSpec : ChangeSpec := { name := "dateEnds", fn := fun _ => fun
  | [d] => { results := [.lit (.bool true)], args := [d] }
  | _ => none }
def dateEndsRow : OpenClaim := { program := "ytoamjmokonnglaa", sum := "ea398cbe69719e1d49d90336f5eb504dd546e39838b735475ae1c83a9bb5bfc8", func := "cippus/cippuslaw05.DateEnds", spec := "dateEnds", unfollowed := true, recurses := true, apart := false }
def DateEndsSaid : Prop := dateEndsRow.holds Try.pinned (OpenSpec.ofChange dateEndsSpec)

/-- ITS FALSE NEIGHBOUR: 'it returns false'. Refute it at one input. -/
def dateEndsWrong : ChangeSpec := { name := "dateEnds", fn := fun _ => fun
  | [d] => { results := [.lit (.bool false)], args := [d] }
  | _ => none }
def DateEndsWrongFalsely : Prop := dateEndsRow.holds Try.pinned (OpenSpec.ofChange dateEndsWrong)

/-- 'cippuslaw05.DateMore': WHATEVER THE INPUT: true; the input reads as it did. -/
def dateMoreSpec : ChangeSpec := { name := "dateMore", fn := fun _ => fun
  | [d] => { results := [.lit (.bool true)], args := [d] }
  | _ => none }
def dateMoreRow : OpenClaim := { program := "ytoamjmokonnglaa", sum := "ea398cbe69719e1d49d90336f5eb504dd546e39838b735475ae1c83a9bb5bfc8", func := "cippus/cippuslaw05.DateMore", spec := "dateMore", unfollowed := true, recurses := true, apart := false }
def DateMoreSaid : Prop := dateMoreRow.holds Try.pinned (OpenSpec.ofChange dateMoreSpec)

/-- ITS FALSE NEIGHBOUR: 'it returns false'. Refute it at one input. -/
def dateMoreWrong : ChangeSpec := { name := "dateMore", fn := fun _ => fun
  | [d] => { results := [.lit (.bool false)], args := [d] }
  | _ => none }
def DateMoreWrongFalsely : Prop := dateMoreRow.holds Try.pinned (OpenSpec.ofChange dateMoreWrong)

/- THE SECOND FORM. 'bulk': how many values and letters a reading holds, each counted each time it is reached (what is shared counts as often as it is met; a slice's spare places count too). A statement '..UptoSaid' is the law's where the arguments, and the package variables that the reading takes, are together of bulk at most 1048576: NARROWER than '..Said'. Prove '..Said' where nothing that the law and all that it calls make is longer than what came in: it says more and counts as full. Else prove '..UptoSaid'. A law counts once. -/
mutual
def uptoBulk {H : Type} : DataW H → Nat
  | .lit (.string bytes) => bytes.length + 1
  | .lit _ => 1
  | .nil => 1
  | .ptr d => uptoBulk d + 1
  | .slice elems spare => uptoBulkAll elems + uptoBulkAll spare + 1
  | .agg parts => uptoBulkAll parts + 1
  | .iface _ d => uptoBulk d + 1
  | .map entries => uptoBulkEntries entries + 1
  | .held _ => 1
def uptoBulkAll {H : Type} : List (DataW H) → Nat
  | [] => 0
  | d :: r => uptoBulk d + uptoBulkAll r
def uptoBulkEntries {H : Type} : List (Lit × DataW H) → Nat
  | [] => 0
  | x :: r => uptoBulkEntry x + uptoBulkEntries r
def uptoBulkEntry {H : Type} : Lit × DataW H → Nat
  | (.string bytes, d) => bytes.length + uptoBulk d + 1
  | (_, d) => uptoBulk d + 1
 end
def uptoSmall : (H : Type) → List (DataW H) → Bool := fun _ ds => decide (uptoBulkAll ds ≤ 1048576)
def OpenSpec.upto (s : _root_.Go.ChangeSpec) : _root_.Go.OpenSpec := { _root_.Go.OpenSpec.ofChange s with cond := some uptoSmall }

/-- 'cippuslaw05.DateWrong', WHERE WHAT IT READS IS OF BULK AT MOST 1048576: true; the input reads as it did. -/
def dateWrongUptoRow : OpenClaim := { program := "ytoamjmokonnglaa", sum := "ea398cbe69719e1d49d90336f5eb504dd546e39838b735475ae1c83a9bb5bfc8", func := "cippus/cippuslaw05.DateWrong", spec := "dateWrong", unfollowed := true, recurses := true, apart := false, narrowed := true }
def DateWrongUptoSaid : Prop := dateWrongUptoRow.holds Try.pinned (OpenSpec.upto dateWrongSpec)

/-- 'cippuslaw05.DateShifted', WHERE WHAT IT READS IS OF BULK AT MOST 1048576: true; the input reads as it did. -/
def dateShiftedUptoRow : OpenClaim := { program := "ytoamjmokonnglaa", sum := "ea398cbe69719e1d49d90336f5eb504dd546e39838b735475ae1c83a9bb5bfc8", func := "cippus/cippuslaw05.DateShifted", spec := "dateShifted", unfollowed := true, recurses := true, apart := false, narrowed := true }
def DateShiftedUptoSaid : Prop := dateShiftedUptoRow.holds Try.pinned (OpenSpec.upto dateShiftedSpec)

/-- 'cippuslaw05.DateOrder', WHERE WHAT IT READS IS OF BULK AT MOST 1048576: true; the input reads as it did. -/
def dateOrderUptoRow : OpenClaim := { program := "ytoamjmokonnglaa", sum := "ea398cbe69719e1d49d90336f5eb504dd546e39838b735475ae1c83a9bb5bfc8", func := "cippus/cippuslaw05.DateOrder", spec := "dateOrder", unfollowed := true, recurses := true, apart := false, narrowed := true }
def DateOrderUptoSaid : Prop := dateOrderUptoRow.holds Try.pinned (OpenSpec.upto dateOrderSpec)

/-- 'cippuslaw05.DateWrongs', WHERE WHAT IT READS IS OF BULK AT MOST 1048576: true; the input reads as it did. -/
def dateWrongsUptoRow : OpenClaim := { program := "ytoamjmokonnglaa", sum := "ea398cbe69719e1d49d90336f5eb504dd546e39838b735475ae1c83a9bb5bfc8", func := "cippus/cippuslaw05.DateWrongs", spec := "dateWrongs", unfollowed := true, recurses := true, apart := false, narrowed := true }
def DateWrongsUptoSaid : Prop := dateWrongsUptoRow.holds Try.pinned (OpenSpec.upto dateWrongsSpec)

/-- 'cippuslaw05.DateYears', WHERE WHAT IT READS IS OF BULK AT MOST 1048576: true; the input reads as it did. -/
def dateYearsUptoRow : OpenClaim := { program := "ytoamjmokonnglaa", sum := "ea398cbe69719e1d49d90336f5eb504dd546e39838b735475ae1c83a9bb5bfc8", func := "cippus/cippuslaw05.DateYears", spec := "dateYears", unfollowed := true, recurses := true, apart := false, narrowed := true }
def DateYearsUptoSaid : Prop := dateYearsUptoRow.holds Try.pinned (OpenSpec.upto dateYearsSpec)

/-- 'cippuslaw05.DateCuts', WHERE WHAT IT READS IS OF BULK AT MOST 1048576: true; the input reads as it did. -/
def dateCutsUptoRow : OpenClaim := { program := "ytoamjmokonnglaa", sum := "ea398cbe69719e1d49d90336f5eb504dd546e39838b735475ae1c83a9bb5bfc8", func := "cippus/cippuslaw05.DateCuts", spec := "dateCuts", unfollowed := true, recurses := true, apart := false, narrowed := true }
def DateCutsUptoSaid : Prop := dateCutsUptoRow.holds Try.pinned (OpenSpec.upto dateCutsSpec)

/-- 'cippuslaw05.DateTold', WHERE WHAT IT READS IS OF BULK AT MOST 1048576: true; the input reads as it did. -/
def dateToldUptoRow : OpenClaim := { program := "ytoamjmokonnglaa", sum := "ea398cbe69719e1d49d90336f5eb504dd546e39838b735475ae1c83a9bb5bfc8", func := "cippus/cippuslaw05.DateTold", spec := "dateTold", unfollowed := true, recurses := true, apart := false, narrowed := true }
def DateToldUptoSaid : Prop := dateToldUptoRow.holds Try.pinned (OpenSpec.upto dateToldSpec)

/-- 'cippuslaw05.DateTrue', WHERE WHAT IT READS IS OF BULK AT MOST 1048576: true; the input reads as it did. -/
def dateTrueUptoRow : OpenClaim := { program := "ytoamjmokonnglaa", sum := "ea398cbe69719e1d49d90336f5eb504dd546e39838b735475ae1c83a9bb5bfc8", func := "cippus/cippuslaw05.DateTrue", spec := "dateTrue", unfollowed := true, recurses := true, apart := false, narrowed := true }
def DateTrueUptoSaid : Prop := dateTrueUptoRow.holds Try.pinned (OpenSpec.upto dateTrueSpec)

/-- 'cippuslaw05.DateEnds', WHERE WHAT IT READS IS OF BULK AT MOST 1048576: true; the input reads as it did. -/
def dateEndsUptoRow : OpenClaim := { program := "ytoamjmokonnglaa", sum := "ea398cbe69719e1d49d90336f5eb504dd546e39838b735475ae1c83a9bb5bfc8", func := "cippus/cippuslaw05.DateEnds", spec := "dateEnds", unfollowed := true, recurses := true, apart := false, narrowed := true }
def DateEndsUptoSaid : Prop := dateEndsUptoRow.holds Try.pinned (OpenSpec.upto dateEndsSpec)

/-- 'cippuslaw05.DateMore', WHERE WHAT IT READS IS OF BULK AT MOST 1048576: true; the input reads as it did. -/
def dateMoreUptoRow : OpenClaim := { program := "ytoamjmokonnglaa", sum := "ea398cbe69719e1d49d90336f5eb504dd546e39838b735475ae1c83a9bb5bfc8", func := "cippus/cippuslaw05.DateMore", spec := "dateMore", unfollowed := true, recurses := true, apart := false, narrowed := true }
def DateMoreUptoSaid : Prop := dateMoreUptoRow.holds Try.pinned (OpenSpec.upto dateMoreSpec)

end Rows
end Go.Proofs.Ytoamjmokonnglaa
