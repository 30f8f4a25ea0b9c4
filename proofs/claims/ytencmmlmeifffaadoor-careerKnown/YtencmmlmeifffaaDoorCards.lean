/-
  DERIVED. GIVEN WITH THE SEED: THE CARDS: each row of YtencmmlmeifffaaDoorRows.lean that lists a variable, with what it lists TIED to the program's text (the seventh form; the later family's looks); each row that meets fmt, with fmt's text TOLD by the authors' own Lean function (tested against real Go, not proved from fmt's source: count such statements apart). THE CARD IS WHAT COUNTS. Prove the row's statement (the work); the ties are given (YtencmmlmeifffaaDoorTie.lean); close each card by the builder's one call (the guide's Derived/Test/ToyasCard.lean, 'card_holds'). Laid BY PROGRAM, IN A SANDBOX (cutbox-door.mjs). By AI agents, Wed Nov 11 2026. No macro, syntax, notation, axiom, sorry.
-/
import Derived.Test.YtencmmlmeifffaaDoorRows
import GoSem.ClaimSeven
namespace Go.Proofs.YtencmmlmeifffaaDoor
namespace Rows

/-- THE TIED CARD OF 'cippuslaw06.CareerKnown'. -/
def careerKnownCard : Claim7 := { stood := { row := careerKnownRow, standIns := [], harness := (true, "3810510cd2c0dd7e07f2e1c91930159990e0e62aa5b1b61ef9d5ff5231e5fbb9"), looks := false }, kinds := [], alts := [], laidByText := true, laidKinds := [.data, .data, .data], laidTests := true, laidLooks := .later }
def CareerKnownCardSaid : Prop := Claim7.holds Tryd.pinned (.plain (OpenSpec.ofChange careerKnownSpec)) careerKnownCard

/-- THE SECOND FORM's CARD OF 'cippuslaw06.CareerKnown'. -/
def careerKnownUptoCard : Claim7 := { stood := { row := careerKnownUptoRow, standIns := [], harness := (true, "3810510cd2c0dd7e07f2e1c91930159990e0e62aa5b1b61ef9d5ff5231e5fbb9"), looks := false }, kinds := [], alts := [], laidByText := true, laidKinds := [.data, .data, .data], laidTests := true, laidLooks := .later }
def CareerKnownUptoCardSaid : Prop := Claim7.holds Tryd.pinned (.plain (OpenSpec.upto careerKnownSpec)) careerKnownUptoCard
end Rows
end Go.Proofs.YtencmmlmeifffaaDoor
