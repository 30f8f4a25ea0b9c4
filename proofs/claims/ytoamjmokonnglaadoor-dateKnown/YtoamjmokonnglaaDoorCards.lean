/-
  DERIVED. GIVEN WITH THE SEED: THE CARDS: each row of YtoamjmokonnglaaDoorRows.lean that lists a variable, with what it lists TIED to the program's text (the seventh form; the later family's looks); each row that meets fmt, with fmt's text TOLD by the authors' own Lean function (tested against real Go, not proved from fmt's source: count such statements apart). THE CARD IS WHAT COUNTS. Prove the row's statement (the work); the ties are given (YtoamjmokonnglaaDoorTie.lean); close each card by the builder's one call (the guide's Derived/Test/ToyasCard.lean, 'card_holds'). Laid BY PROGRAM, IN A SANDBOX (cutbox-door.mjs). By AI agents, Wed Nov 11 2026. No macro, syntax, notation, axiom, sorry.
-/
import Derived.Test.YtoamjmokonnglaaDoorRows
import GoSem.ClaimSeven
namespace Go.Proofs.YtoamjmokonnglaaDoor
namespace Rows

/-- THE TIED CARD OF 'cippuslaw05.DateKnown'. -/
def dateKnownCard : Claim7 := { stood := { row := dateKnownRow, standIns := [], harness := (true, "ad6c64e65cd3a253cc0f0d75b6c9e08d0e7a5a19b43652984690586f1ca19a77"), looks := true }, kinds := [], alts := [], laidByText := true, laidKinds := [.data, .data, .data], laidTests := true, laidLooks := .later }
def DateKnownCardSaid : Prop := Claim7.holds Tryd.pinned (.plain (OpenSpec.ofChange dateKnownSpec)) dateKnownCard

/-- THE SECOND FORM's CARD OF 'cippuslaw05.DateKnown'. -/
def dateKnownUptoCard : Claim7 := { stood := { row := dateKnownUptoRow, standIns := [], harness := (true, "ad6c64e65cd3a253cc0f0d75b6c9e08d0e7a5a19b43652984690586f1ca19a77"), looks := true }, kinds := [], alts := [], laidByText := true, laidKinds := [.data, .data, .data], laidTests := true, laidLooks := .later }
def DateKnownUptoCardSaid : Prop := Claim7.holds Tryd.pinned (.plain (OpenSpec.upto dateKnownSpec)) dateKnownUptoCard
end Rows
end Go.Proofs.YtoamjmokonnglaaDoor
