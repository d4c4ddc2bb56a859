/-
  DERIVED. GIVEN WITH THE SEED: THE CARDS: each row of YtbmkbnalembbjaaDoorRows.lean that lists a variable, with what it lists TIED to the program's text (the seventh form; the later family's looks); each row that meets fmt, with fmt's text TOLD by the authors' own Lean function (tested against real Go, not proved from fmt's source: count such statements apart). THE CARD IS WHAT COUNTS. Prove the row's statement (the work); the ties are given (YtbmkbnalembbjaaDoorTie.lean); close each card by the builder's one call (the guide's Derived/Test/ToyasCard.lean, 'card_holds'). Laid BY PROGRAM, IN A SANDBOX (cutbox-door.mjs). By AI agents, Wed Nov 11 2026. No macro, syntax, notation, axiom, sorry.
-/
import Derived.Test.YtbmkbnalembbjaaDoorRows
import GoSem.ClaimSeven
namespace Go.Proofs.YtbmkbnalembbjaaDoor
namespace Rows

/-- THE TIED CARD OF 'cairnfieldkeep.TintBounded'. -/
def tintBoundedCard : Claim7 := { stood := { row := tintBoundedRow, standIns := [], harness := (true, "26d6c72b0a417d12af80929c0d86b2e43fb37d04c8131909810ec7ae091abfb6"), looks := false }, kinds := [], alts := [], laidByText := true, laidKinds := [.data], laidTests := true, laidLooks := .later }
def TintBoundedCardSaid : Prop := Claim7.holds Tryd.pinned (.plain (OpenSpec.ofChange tintBoundedSpec)) tintBoundedCard

/-- THE SECOND FORM's CARD OF 'cairnfieldkeep.TintBounded'. -/
def tintBoundedUptoCard : Claim7 := { stood := { row := tintBoundedUptoRow, standIns := [], harness := (true, "26d6c72b0a417d12af80929c0d86b2e43fb37d04c8131909810ec7ae091abfb6"), looks := false }, kinds := [], alts := [], laidByText := true, laidKinds := [.data], laidTests := true, laidLooks := .later }
def TintBoundedUptoCardSaid : Prop := Claim7.holds Tryd.pinned (.plain (OpenSpec.upto tintBoundedSpec)) tintBoundedUptoCard
end Rows
end Go.Proofs.YtbmkbnalembbjaaDoor
