/-
  DERIVED. GIVEN WITH THE SEED: THE CARDS: each row of YtccmichgbkmdpaaGreatDoorRows.lean that lists a variable, with what it lists TIED to the program's text (the seventh form; the later family's looks); each row that meets fmt, with fmt's text TOLD by the authors' own Lean function (tested against real Go, not proved from fmt's source: count such statements apart). THE CARD IS WHAT COUNTS. Prove the row's statement (the work); the ties are given (YtccmichgbkmdpaaGreatDoorTie.lean); close each card by the builder's one call (the guide's Derived/Test/ToyasCard.lean, 'card_holds'). Laid BY PROGRAM, IN A SANDBOX (cutbox-door.mjs). By AI agents, Wed Nov 11 2026. No macro, syntax, notation, axiom, sorry.
-/
import Derived.Test.YtccmichgbkmdpaaGreatDoorRows
import GoSem.ClaimSeven
namespace Go.Proofs.YtccmichgbkmdpaaGreatDoor
namespace Rows

/-- THE TIED CARD OF 'cairnfieldkeep.PlayRight'. -/
def playRightCard : Claim7 := { stood := { row := playRightRow, standIns := [], harness := (true, "23393cc1f7ca470f9abcabe93f1e358209a9a3756052eb3bf20a41184dfccef6"), looks := false }, kinds := [], alts := [], laidByText := true, laidKinds := [.data], laidTests := true, laidLooks := .later }
def PlayRightCardSaid : Prop := Claim7.holds Tryz.pinned (.plain (OpenSpec.ofChange playRightSpec)) playRightCard

/-- THE TIED CARD OF 'cairnfieldkeep.PlayCollects'. -/
def playCollectsCard : Claim7 := { stood := { row := playCollectsRow, standIns := [], harness := (true, "23393cc1f7ca470f9abcabe93f1e358209a9a3756052eb3bf20a41184dfccef6"), looks := false }, kinds := [], alts := [], laidByText := true, laidKinds := [.data], laidTests := true, laidLooks := .later }
def PlayCollectsCardSaid : Prop := Claim7.holds Tryz.pinned (.plain (OpenSpec.ofChange playCollectsSpec)) playCollectsCard

/-- THE SECOND FORM's CARD OF 'cairnfieldkeep.PlayRight'. -/
def playRightUptoCard : Claim7 := { stood := { row := playRightUptoRow, standIns := [], harness := (true, "23393cc1f7ca470f9abcabe93f1e358209a9a3756052eb3bf20a41184dfccef6"), looks := false }, kinds := [], alts := [], laidByText := true, laidKinds := [.data], laidTests := true, laidLooks := .later }
def PlayRightUptoCardSaid : Prop := Claim7.holds Tryz.pinned (.plain (OpenSpec.upto playRightSpec)) playRightUptoCard

/-- THE SECOND FORM's CARD OF 'cairnfieldkeep.PlayCollects'. -/
def playCollectsUptoCard : Claim7 := { stood := { row := playCollectsUptoRow, standIns := [], harness := (true, "23393cc1f7ca470f9abcabe93f1e358209a9a3756052eb3bf20a41184dfccef6"), looks := false }, kinds := [], alts := [], laidByText := true, laidKinds := [.data], laidTests := true, laidLooks := .later }
def PlayCollectsUptoCardSaid : Prop := Claim7.holds Tryz.pinned (.plain (OpenSpec.upto playCollectsSpec)) playCollectsUptoCard
end Rows
end Go.Proofs.YtccmichgbkmdpaaGreatDoor
