/-
  No cell of these rows narrows 'for every input' (looked for: loops, veiled, ifaces, maps, wideKeys, modest, calm, conditions, laid).
  DERIVED. THE GIVEN ROWS OF THIS SEAT. 11 by the template 'for every input the law returns true; each argument reads behind the call as it read before'; 0 by the template 'total and deterministic' (their statements: YtencmmlmeifffaaTotals.lean).
  GIVEN WITH THE SEED: the statements are not yours to turn. If you find one false, say at which input.
  Laid BY PROGRAM, IN A SANDBOX (cutbox-rows.mjs): the forced cells as the released guide's own fill.sh prints them over the translation e7f300943a24148c… (all of the seat's roots in one cut). By AI agents, Wed Nov 11 2026. No macro, syntax, notation, axiom, sorry.
-/
import Derived.Test.YtencmmlmeifffaaChecked
import GoSem.Claim
import GoSem.ClaimJoined
import GoSem.ClaimMapViews
import Derived.JoinedTies
import Derived.KernelRfl
namespace Go.Proofs.Ytencmmlmeifffaa
/- THE CELL 'sum', in the pinned program and in every row, IS THE sha256 OF THE DUMP (.gsa) THAT YtencmmlmeifffaaProg.lean LOADS. Nothing in Lean hashes anything: it is a label: what it is worth is what the hold of that sum in a sandbox is worth. -/
noncomputable def Try.pinned : Pinned := { name := "ytencmmlmeifffaa", sum := "e7f300943a24148c5e582c1a01c2443013313e12c8283c3da722a1e90790ce5a", checked := Try.checked }
namespace Rows
def none {H : Type} : Left H := { results := [], args := [] }

/-- 'cippuslaw06.CareerLives': WHATEVER THE INPUT: true; the input reads as it did. -/
def careerLivesSpec : ChangeSpec := { name := "careerLives", fn := fun _ => fun
  | [d1, d2, d3] => { results := [.lit (.bool true)], args := [d1, d2, d3] }
  | _ => none }
def careerLivesRow : OpenClaim := { program := "ytencmmlmeifffaa", sum := "e7f300943a24148c5e582c1a01c2443013313e12c8283c3da722a1e90790ce5a", func := "cippus/cippuslaw06.CareerLives", spec := "careerLives", unfollowed := true, recurses := true, apart := false }
def CareerLivesSaid : Prop := careerLivesRow.holds Try.pinned (OpenSpec.ofChange careerLivesSpec)

/-- ITS FALSE NEIGHBOUR: 'it returns false'. Refute it at one input. -/
def careerLivesWrong : ChangeSpec := { name := "careerLives", fn := fun _ => fun
  | [d1, d2, d3] => { results := [.lit (.bool false)], args := [d1, d2, d3] }
  | _ => none }
def CareerLivesWrongFalsely : Prop := careerLivesRow.holds Try.pinned (OpenSpec.ofChange careerLivesWrong)

/-- 'cippuslaw06.CareerOnes': WHATEVER THE INPUT: true; the input reads as it did. -/
def careerOnesSpec : ChangeSpec := { name := "careerOnes", fn := fun _ => fun
  | [d1, d2, d3, d4] => { results := [.lit (.bool true)], args := [d1, d2, d3, d4] }
  | _ => none }
def careerOnesRow : OpenClaim := { program := "ytencmmlmeifffaa", sum := "e7f300943a24148c5e582c1a01c2443013313e12c8283c3da722a1e90790ce5a", func := "cippus/cippuslaw06.CareerOnes", spec := "careerOnes", unfollowed := true, recurses := true, apart := false }
def CareerOnesSaid : Prop := careerOnesRow.holds Try.pinned (OpenSpec.ofChange careerOnesSpec)

/-- ITS FALSE NEIGHBOUR: 'it returns false'. Refute it at one input. -/
def careerOnesWrong : ChangeSpec := { name := "careerOnes", fn := fun _ => fun
  | [d1, d2, d3, d4] => { results := [.lit (.bool false)], args := [d1, d2, d3, d4] }
  | _ => none }
def CareerOnesWrongFalsely : Prop := careerOnesRow.holds Try.pinned (OpenSpec.ofChange careerOnesWrong)

/-- 'cippuslaw06.CareerWrongs': WHATEVER THE INPUT: true; the input reads as it did. -/
def careerWrongsSpec : ChangeSpec := { name := "careerWrongs", fn := fun _ => fun
  | [d1, d2] => { results := [.lit (.bool true)], args := [d1, d2] }
  | _ => none }
def careerWrongsRow : OpenClaim := { program := "ytencmmlmeifffaa", sum := "e7f300943a24148c5e582c1a01c2443013313e12c8283c3da722a1e90790ce5a", func := "cippus/cippuslaw06.CareerWrongs", spec := "careerWrongs", unfollowed := true, recurses := true, apart := false }
def CareerWrongsSaid : Prop := careerWrongsRow.holds Try.pinned (OpenSpec.ofChange careerWrongsSpec)

/-- ITS FALSE NEIGHBOUR: 'it returns false'. Refute it at one input. -/
def careerWrongsWrong : ChangeSpec := { name := "careerWrongs", fn := fun _ => fun
  | [d1, d2] => { results := [.lit (.bool false)], args := [d1, d2] }
  | _ => none }
def CareerWrongsWrongFalsely : Prop := careerWrongsRow.holds Try.pinned (OpenSpec.ofChange careerWrongsWrong)

/-- 'cippuslaw06.CareerTrue': WHATEVER THE INPUT: true; the input reads as it did. -/
def careerTrueSpec : ChangeSpec := { name := "careerTrue", fn := fun _ => fun
  | [d] => { results := [.lit (.bool true)], args := [d] }
  | _ => none }
def careerTrueRow : OpenClaim := { program := "ytencmmlmeifffaa", sum := "e7f300943a24148c5e582c1a01c2443013313e12c8283c3da722a1e90790ce5a", func := "cippus/cippuslaw06.CareerTrue", spec := "careerTrue", unfollowed := true, recurses := true, apart := false }
def CareerTrueSaid : Prop := careerTrueRow.holds Try.pinned (OpenSpec.ofChange careerTrueSpec)

/-- ITS FALSE NEIGHBOUR: 'it returns false'. Refute it at one input. -/
def careerTrueWrong : ChangeSpec := { name := "careerTrue", fn := fun _ => fun
  | [d] => { results := [.lit (.bool false)], args := [d] }
  | _ => none }
def CareerTrueWrongFalsely : Prop := careerTrueRow.holds Try.pinned (OpenSpec.ofChange careerTrueWrong)

/-- 'cippuslaw06.CareerAll': WHATEVER THE INPUT: true; the input reads as it did. -/
def careerAllSpec : ChangeSpec := { name := "careerAll", fn := fun _ => fun
  | [d] => { results := [.lit (.bool true)], args := [d] }
  | _ => none }
def careerAllRow : OpenClaim := { program := "ytencmmlmeifffaa", sum := "e7f300943a24148c5e582c1a01c2443013313e12c8283c3da722a1e90790ce5a", func := "cippus/cippuslaw06.CareerAll", spec := "careerAll", unfollowed := true, recurses := true, apart := false }
def CareerAllSaid : Prop := careerAllRow.holds Try.pinned (OpenSpec.ofChange careerAllSpec)

/-- ITS FALSE NEIGHBOUR: 'it returns false'. Refute it at one input. -/
def careerAllWrong : ChangeSpec := { name := "careerAll", fn := fun _ => fun
  | [d] => { results := [.lit (.bool false)], args := [d] }
  | _ => none }
def CareerAllWrongFalsely : Prop := careerAllRow.holds Try.pinned (OpenSpec.ofChange careerAllWrong)

/-- 'cippuslaw06.CareerBetter': WHATEVER THE INPUT: true; the input reads as it did. -/
def careerBetterSpec : ChangeSpec := { name := "careerBetter", fn := fun _ => fun
  | [d] => { results := [.lit (.bool true)], args := [d] }
  | _ => none }
def careerBetterRow : OpenClaim := { program := "ytencmmlmeifffaa", sum := "e7f300943a24148c5e582c1a01c2443013313e12c8283c3da722a1e90790ce5a", func := "cippus/cippuslaw06.CareerBetter", spec := "careerBetter", unfollowed := true, recurses := true, apart := false }
def CareerBetterSaid : Prop := careerBetterRow.holds Try.pinned (OpenSpec.ofChange careerBetterSpec)

/-- ITS FALSE NEIGHBOUR: 'it returns false'. Refute it at one input. -/
def careerBetterWrong : ChangeSpec := { name := "careerBetter", fn := fun _ => fun
  | [d] => { results := [.lit (.bool false)], args := [d] }
  | _ => none }
def CareerBetterWrongFalsely : Prop := careerBetterRow.holds Try.pinned (OpenSpec.ofChange careerBetterWrong)

/-- 'cippuslaw06.CareerSame': WHATEVER THE INPUT: true; the input reads as it did. -/
def careerSameSpec : ChangeSpec := { name := "careerSame", fn := fun _ => fun
  | [d] => { results := [.lit (.bool true)], args := [d] }
  | _ => none }
def careerSameRow : OpenClaim := { program := "ytencmmlmeifffaa", sum := "e7f300943a24148c5e582c1a01c2443013313e12c8283c3da722a1e90790ce5a", func := "cippus/cippuslaw06.CareerSame", spec := "careerSame", unfollowed := true, recurses := true, apart := false }
def CareerSameSaid : Prop := careerSameRow.holds Try.pinned (OpenSpec.ofChange careerSameSpec)

/-- ITS FALSE NEIGHBOUR: 'it returns false'. Refute it at one input. -/
def careerSameWrong : ChangeSpec := { name := "careerSame", fn := fun _ => fun
  | [d] => { results := [.lit (.bool false)], args := [d] }
  | _ => none }
def CareerSameWrongFalsely : Prop := careerSameRow.holds Try.pinned (OpenSpec.ofChange careerSameWrong)

/-- 'cippuslaw06.CareerFewest': WHATEVER THE INPUT: true; the input reads as it did. -/
def careerFewestSpec : ChangeSpec := { name := "careerFewest", fn := fun _ => fun
  | [d] => { results := [.lit (.bool true)], args := [d] }
  | _ => none }
def careerFewestRow : OpenClaim := { program := "ytencmmlmeifffaa", sum := "e7f300943a24148c5e582c1a01c2443013313e12c8283c3da722a1e90790ce5a", func := "cippus/cippuslaw06.CareerFewest", spec := "careerFewest", unfollowed := true, recurses := true, apart := false }
def CareerFewestSaid : Prop := careerFewestRow.holds Try.pinned (OpenSpec.ofChange careerFewestSpec)

/-- ITS FALSE NEIGHBOUR: 'it returns false'. Refute it at one input. -/
def careerFewestWrong : ChangeSpec := { name := "careerFewest", fn := fun _ => fun
  | [d] => { results := [.lit (.bool false)], args := [d] }
  | _ => none }
def CareerFewestWrongFalsely : Prop := careerFewestRow.holds Try.pinned (OpenSpec.ofChange careerFewestWrong)

/-- 'cippuslaw06.CareerLater': WHATEVER THE INPUT: true; the input reads as it did. -/
def careerLaterSpec : ChangeSpec := { name := "careerLater", fn := fun _ => fun
  | [d] => { results := [.lit (.bool true)], args := [d] }
  | _ => none }
def careerLaterRow : OpenClaim := { program := "ytencmmlmeifffaa", sum := "e7f300943a24148c5e582c1a01c2443013313e12c8283c3da722a1e90790ce5a", func := "cippus/cippuslaw06.CareerLater", spec := "careerLater", unfollowed := true, recurses := true, apart := false }
def CareerLaterSaid : Prop := careerLaterRow.holds Try.pinned (OpenSpec.ofChange careerLaterSpec)

/-- ITS FALSE NEIGHBOUR: 'it returns false'. Refute it at one input. -/
def careerLaterWrong : ChangeSpec := { name := "careerLater", fn := fun _ => fun
  | [d] => { results := [.lit (.bool false)], args := [d] }
  | _ => none }
def CareerLaterWrongFalsely : Prop := careerLaterRow.holds Try.pinned (OpenSpec.ofChange careerLaterWrong)

/-- 'cippuslaw06.CareerOrder': WHATEVER THE INPUT: true; the input reads as it did. -/
def careerOrderSpec : ChangeSpec := { name := "careerOrder", fn := fun _ => fun
  | [d] => { results := [.lit (.bool true)], args := [d] }
  | _ => none }
def careerOrderRow : OpenClaim := { program := "ytencmmlmeifffaa", sum := "e7f300943a24148c5e582c1a01c2443013313e12c8283c3da722a1e90790ce5a", func := "cippus/cippuslaw06.CareerOrder", spec := "careerOrder", unfollowed := true, recurses := true, apart := false }
def CareerOrderSaid : Prop := careerOrderRow.holds Try.pinned (OpenSpec.ofChange careerOrderSpec)

/-- ITS FALSE NEIGHBOUR: 'it returns false'. Refute it at one input. -/
def careerOrderWrong : ChangeSpec := { name := "careerOrder", fn := fun _ => fun
  | [d] => { results := [.lit (.bool false)], args := [d] }
  | _ => none }
def CareerOrderWrongFalsely : Prop := careerOrderRow.holds Try.pinned (OpenSpec.ofChange careerOrderWrong)

/-- 'cippuslaw06.CareerMilder': WHATEVER THE INPUT: true; the input reads as it did. -/
def careerMilderSpec : ChangeSpec := { name := "careerMilder", fn := fun _ => fun
  | [d] => { results := [.lit (.bool true)], args := [d] }
  | _ => none }
def careerMilderRow : OpenClaim := { program := "ytencmmlmeifffaa", sum := "e7f300943a24148c5e582c1a01c2443013313e12c8283c3da722a1e90790ce5a", func := "cippus/cippuslaw06.CareerMilder", spec := "careerMilder", unfollowed := true, recurses := true, apart := false }
def CareerMilderSaid : Prop := careerMilderRow.holds Try.pinned (OpenSpec.ofChange careerMilderSpec)

/-- ITS FALSE NEIGHBOUR: 'it returns false'. Refute it at one input. -/
def careerMilderWrong : ChangeSpec := { name := "careerMilder", fn := fun _ => fun
  | [d] => { results := [.lit (.bool false)], args := [d] }
  | _ => none }
def CareerMilderWrongFalsely : Prop := careerMilderRow.holds Try.pinned (OpenSpec.ofChange careerMilderWrong)

/- THE SECOND FORM. 'bulk': how many values and letters a reading holds, each counted each time it is reached (what is shared counts as often as it is met; a slice's spare places count too). A statement '..UptoSaid' is the law's where the arguments, and the package variables that the reading takes, are together of bulk at most 1048576: NARROWER than '..Said'. Prove '..Said' where nothing that the law and all that it calls make is longer than what came in: it says more and counts as full. Else prove '..UptoSaid'. A law counts once. -/
mutual
def uptoBulk {H : Type} : DataW H → Nat
  | .lit (.string bytes) => bytes.length + 1
  | .lit _ => 1
  | .nil => 1
  | .ptr d => uptoBulk d + 1
  | .slice elems spare => uptoBulkAll elems + uptoBulkAll spare + 1
  | .agg parts => uptoBulkAll parts + 1
  | .iface _ d => uptoBulk d + 1
  | .map entries => uptoBulkEntries entries + 1
  | .held _ => 1
def uptoBulkAll {H : Type} : List (DataW H) → Nat
  | [] => 0
  | d :: r => uptoBulk d + uptoBulkAll r
def uptoBulkEntries {H : Type} : List (Lit × DataW H) → Nat
  | [] => 0
  | x :: r => uptoBulkEntry x + uptoBulkEntries r
def uptoBulkEntry {H : Type} : Lit × DataW H → Nat
  | (.string bytes, d) => bytes.length + uptoBulk d + 1
  | (_, d) => uptoBulk d + 1
 end
def uptoSmall : (H : Type) → List (DataW H) → Bool := fun _ ds => decide (uptoBulkAll ds ≤ 1048576)
def OpenSpec.upto (s : _root_.Go.ChangeSpec) : _root_.Go.OpenSpec := { _root_.Go.OpenSpec.ofChange s with cond := some uptoSmall }

/-- 'cippuslaw06.CareerLives', WHERE WHAT IT READS IS OF BULK AT MOST 1048576: true; the input reads as it did. -/
def careerLivesUptoRow : OpenClaim := { program := "ytencmmlmeifffaa", sum := "e7f300943a24148c5e582c1a01c2443013313e12c8283c3da722a1e90790ce5a", func := "cippus/cippuslaw06.CareerLives", spec := "careerLives", unfollowed := true, recurses := true, apart := false, narrowed := true }
def CareerLivesUptoSaid : Prop := careerLivesUptoRow.holds Try.pinned (OpenSpec.upto careerLivesSpec)

/-- 'cippuslaw06.CareerOnes', WHERE WHAT IT READS IS OF BULK AT MOST 1048576: true; the input reads as it did. -/
def careerOnesUptoRow : OpenClaim := { program := "ytencmmlmeifffaa", sum := "e7f300943a24148c5e582c1a01c2443013313e12c8283c3da722a1e90790ce5a", func := "cippus/cippuslaw06.CareerOnes", spec := "careerOnes", unfollowed := true, recurses := true, apart := false, narrowed := true }
def CareerOnesUptoSaid : Prop := careerOnesUptoRow.holds Try.pinned (OpenSpec.upto careerOnesSpec)

/-- 'cippuslaw06.CareerWrongs', WHERE WHAT IT READS IS OF BULK AT MOST 1048576: true; the input reads as it did. -/
def careerWrongsUptoRow : OpenClaim := { program := "ytencmmlmeifffaa", sum := "e7f300943a24148c5e582c1a01c2443013313e12c8283c3da722a1e90790ce5a", func := "cippus/cippuslaw06.CareerWrongs", spec := "careerWrongs", unfollowed := true, recurses := true, apart := false, narrowed := true }
def CareerWrongsUptoSaid : Prop := careerWrongsUptoRow.holds Try.pinned (OpenSpec.upto careerWrongsSpec)

/-- 'cippuslaw06.CareerTrue', WHERE WHAT IT READS IS OF BULK AT MOST 1048576: true; the input reads as it did. -/
def careerTrueUptoRow : OpenClaim := { program := "ytencmmlmeifffaa", sum := "e7f300943a24148c5e582c1a01c2443013313e12c8283c3da722a1e90790ce5a", func := "cippus/cippuslaw06.CareerTrue", spec := "careerTrue", unfollowed := true, recurses := true, apart := false, narrowed := true }
def CareerTrueUptoSaid : Prop := careerTrueUptoRow.holds Try.pinned (OpenSpec.upto careerTrueSpec)

/-- 'cippuslaw06.CareerAll', WHERE WHAT IT READS IS OF BULK AT MOST 1048576: true; the input reads as it did. -/
def careerAllUptoRow : OpenClaim := { program := "ytencmmlmeifffaa", sum := "e7f300943a24148c5e582c1a01c2443013313e12c8283c3da722a1e90790ce5a", func := "cippus/cippuslaw06.CareerAll", spec := "careerAll", unfollowed := true, recurses := true, apart := false, narrowed := true }
def CareerAllUptoSaid : Prop := careerAllUptoRow.holds Try.pinned (OpenSpec.upto careerAllSpec)

/-- 'cippuslaw06.CareerBetter', WHERE WHAT IT READS IS OF BULK AT MOST 1048576: true; the input reads as it did. -/
def careerBetterUptoRow : OpenClaim := { program := "ytencmmlmeifffaa", sum := "e7f300943a24148c5e582c1a01c2443013313e12c8283c3da722a1e90790ce5a", func := "cippus/cippuslaw06.CareerBetter", spec := "careerBetter", unfollowed := true, recurses := true, apart := false, narrowed := true }
def CareerBetterUptoSaid : Prop := careerBetterUptoRow.holds Try.pinned (OpenSpec.upto careerBetterSpec)

/-- 'cippuslaw06.CareerSame', WHERE WHAT IT READS IS OF BULK AT MOST 1048576: true; the input reads as it did. -/
def careerSameUptoRow : OpenClaim := { program := "ytencmmlmeifffaa", sum := "e7f300943a24148c5e582c1a01c2443013313e12c8283c3da722a1e90790ce5a", func := "cippus/cippuslaw06.CareerSame", spec := "careerSame", unfollowed := true, recurses := true, apart := false, narrowed := true }
def CareerSameUptoSaid : Prop := careerSameUptoRow.holds Try.pinned (OpenSpec.upto careerSameSpec)

/-- 'cippuslaw06.CareerFewest', WHERE WHAT IT READS IS OF BULK AT MOST 1048576: true; the input reads as it did. -/
def careerFewestUptoRow : OpenClaim := { program := "ytencmmlmeifffaa", sum := "e7f300943a24148c5e582c1a01c2443013313e12c8283c3da722a1e90790ce5a", func := "cippus/cippuslaw06.CareerFewest", spec := "careerFewest", unfollowed := true, recurses := true, apart := false, narrowed := true }
def CareerFewestUptoSaid : Prop := careerFewestUptoRow.holds Try.pinned (OpenSpec.upto careerFewestSpec)

/-- 'cippuslaw06.CareerLater', WHERE WHAT IT READS IS OF BULK AT MOST 1048576: true; the input reads as it did. -/
def careerLaterUptoRow : OpenClaim := { program := "ytencmmlmeifffaa", sum := "e7f300943a24148c5e582c1a01c2443013313e12c8283c3da722a1e90790ce5a", func := "cippus/cippuslaw06.CareerLater", spec := "careerLater", unfollowed := true, recurses := true, apart := false, narrowed := true }
def CareerLaterUptoSaid : Prop := careerLaterUptoRow.holds Try.pinned (OpenSpec.upto careerLaterSpec)

/-- 'cippuslaw06.CareerOrder', WHERE WHAT IT READS IS OF BULK AT MOST 1048576: true; the input reads as it did. -/
def careerOrderUptoRow : OpenClaim := { program := "ytencmmlmeifffaa", sum := "e7f300943a24148c5e582c1a01c2443013313e12c8283c3da722a1e90790ce5a", func := "cippus/cippuslaw06.CareerOrder", spec := "careerOrder", unfollowed := true, recurses := true, apart := false, narrowed := true }
def CareerOrderUptoSaid : Prop := careerOrderUptoRow.holds Try.pinned (OpenSpec.upto careerOrderSpec)

/-- 'cippuslaw06.CareerMilder', WHERE WHAT IT READS IS OF BULK AT MOST 1048576: true; the input reads as it did. -/
def careerMilderUptoRow : OpenClaim := { program := "ytencmmlmeifffaa", sum := "e7f300943a24148c5e582c1a01c2443013313e12c8283c3da722a1e90790ce5a", func := "cippus/cippuslaw06.CareerMilder", spec := "careerMilder", unfollowed := true, recurses := true, apart := false, narrowed := true }
def CareerMilderUptoSaid : Prop := careerMilderUptoRow.holds Try.pinned (OpenSpec.upto careerMilderSpec)

end Rows
end Go.Proofs.Ytencmmlmeifffaa
