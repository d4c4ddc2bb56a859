/-
  DERIVED. GIVEN WITH THE SEED: THE CARDS: each row of YtjdpcmmmdaffdabGreatDoorRows.lean that lists a variable, with what it lists TIED to the program's text (the seventh form; the later family's looks); each row that meets fmt, with fmt's text TOLD by the authors' own Lean function (tested against real Go, not proved from fmt's source: count such statements apart). THE CARD IS WHAT COUNTS. Prove the row's statement (the work); the ties are given (YtjdpcmmmdaffdabGreatDoorTie.lean); close each card by the builder's one call (the guide's Derived/Test/ToyasCard.lean, 'card_holds'). Laid BY PROGRAM, IN A SANDBOX (cutbox-door.mjs). By AI agents, Wed Nov 11 2026. No macro, syntax, notation, axiom, sorry.
-/
import Derived.Test.YtjdpcmmmdaffdabGreatDoorRows
import GoSem.ClaimSeven
namespace Go.Proofs.YtjdpcmmmdaffdabGreatDoor
namespace Rows

/-- THE TIED CARD OF 'cairnfieldkeep.PlayRight'. -/
def playRightCard : Claim7 := { stood := { row := playRightRow, standIns := [], harness := (true, "da18cab8c08c53aadfab4a079cf72e1b05c5a7cada97a6fbcbc4b2a6786c4cf4"), looks := false }, kinds := [], alts := [], laidByText := true, laidKinds := [.data], laidTests := true, laidLooks := .later }
def PlayRightCardSaid : Prop := Claim7.holds Tryz.pinned (.plain (OpenSpec.ofChange playRightSpec)) playRightCard

/-- THE TIED CARD OF 'cairnfieldkeep.PlayCuts'. -/
def playCutsCard : Claim7 := { stood := { row := playCutsRow, standIns := [], harness := (true, "da18cab8c08c53aadfab4a079cf72e1b05c5a7cada97a6fbcbc4b2a6786c4cf4"), looks := false }, kinds := [], alts := [], laidByText := true, laidKinds := [.data], laidTests := true, laidLooks := .later }
def PlayCutsCardSaid : Prop := Claim7.holds Tryz.pinned (.plain (OpenSpec.ofChange playCutsSpec)) playCutsCard

/-- THE TIED CARD OF 'cairnfieldkeep.PlayCollects'. -/
def playCollectsCard : Claim7 := { stood := { row := playCollectsRow, standIns := [], harness := (true, "da18cab8c08c53aadfab4a079cf72e1b05c5a7cada97a6fbcbc4b2a6786c4cf4"), looks := false }, kinds := [], alts := [], laidByText := true, laidKinds := [.data], laidTests := true, laidLooks := .later }
def PlayCollectsCardSaid : Prop := Claim7.holds Tryz.pinned (.plain (OpenSpec.ofChange playCollectsSpec)) playCollectsCard

/-- THE SECOND FORM's CARD OF 'cairnfieldkeep.PlayRight'. -/
def playRightUptoCard : Claim7 := { stood := { row := playRightUptoRow, standIns := [], harness := (true, "da18cab8c08c53aadfab4a079cf72e1b05c5a7cada97a6fbcbc4b2a6786c4cf4"), looks := false }, kinds := [], alts := [], laidByText := true, laidKinds := [.data], laidTests := true, laidLooks := .later }
def PlayRightUptoCardSaid : Prop := Claim7.holds Tryz.pinned (.plain (OpenSpec.upto playRightSpec)) playRightUptoCard

/-- THE SECOND FORM's CARD OF 'cairnfieldkeep.PlayCuts'. -/
def playCutsUptoCard : Claim7 := { stood := { row := playCutsUptoRow, standIns := [], harness := (true, "da18cab8c08c53aadfab4a079cf72e1b05c5a7cada97a6fbcbc4b2a6786c4cf4"), looks := false }, kinds := [], alts := [], laidByText := true, laidKinds := [.data], laidTests := true, laidLooks := .later }
def PlayCutsUptoCardSaid : Prop := Claim7.holds Tryz.pinned (.plain (OpenSpec.upto playCutsSpec)) playCutsUptoCard

/-- THE SECOND FORM's CARD OF 'cairnfieldkeep.PlayCollects'. -/
def playCollectsUptoCard : Claim7 := { stood := { row := playCollectsUptoRow, standIns := [], harness := (true, "da18cab8c08c53aadfab4a079cf72e1b05c5a7cada97a6fbcbc4b2a6786c4cf4"), looks := false }, kinds := [], alts := [], laidByText := true, laidKinds := [.data], laidTests := true, laidLooks := .later }
def PlayCollectsUptoCardSaid : Prop := Claim7.holds Tryz.pinned (.plain (OpenSpec.upto playCollectsSpec)) playCollectsUptoCard
end Rows
end Go.Proofs.YtjdpcmmmdaffdabGreatDoor
