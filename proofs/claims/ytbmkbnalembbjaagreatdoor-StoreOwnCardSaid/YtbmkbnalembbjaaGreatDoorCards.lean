/-
  DERIVED. GIVEN WITH THE SEED: THE CARDS: each row of YtbmkbnalembbjaaGreatDoorRows.lean that lists a variable, with what it lists TIED to the program's text (the seventh form; the later family's looks); each row that meets fmt, with fmt's text TOLD by the authors' own Lean function (tested against real Go, not proved from fmt's source: count such statements apart). THE CARD IS WHAT COUNTS. Prove the row's statement (the work); the ties are given (YtbmkbnalembbjaaGreatDoorTie.lean); close each card by the builder's one call (the guide's Derived/Test/ToyasCard.lean, 'card_holds'). Laid BY PROGRAM, IN A SANDBOX (cutbox-door.mjs). By AI agents, Wed Nov 11 2026. No macro, syntax, notation, axiom, sorry.
-/
import Derived.Test.YtbmkbnalembbjaaGreatDoorRows
import GoSem.ClaimSeven
namespace Go.Proofs.YtbmkbnalembbjaaGreatDoor
namespace Rows

/-- THE TIED CARD OF 'cairnfieldkeep.TapeReplays'. -/
def tapeReplaysCard : Claim7 := { stood := { row := tapeReplaysRow, standIns := [], harness := (true, "943ff60a88a78a0c025bea03f34bf0388649861803781b6f2518315f1664ac18"), looks := false }, kinds := [], alts := [], laidByText := true, laidKinds := [.data], laidTests := true, laidLooks := .later }
def TapeReplaysCardSaid : Prop := Claim7.holds Tryz.pinned (.plain (OpenSpec.ofChange tapeReplaysSpec)) tapeReplaysCard

/-- THE TIED CARD OF 'cairnfieldkeep.StoreOwn'. -/
def storeOwnCard : Claim7 := { stood := { row := storeOwnRow, standIns := [], harness := (true, "943ff60a88a78a0c025bea03f34bf0388649861803781b6f2518315f1664ac18"), looks := false }, kinds := [], alts := [], laidByText := true, laidKinds := [.data], laidTests := true, laidLooks := .later }
def StoreOwnCardSaid : Prop := Claim7.holds Tryz.pinned (.plain (OpenSpec.ofChange storeOwnSpec)) storeOwnCard

/-- THE SECOND FORM's CARD OF 'cairnfieldkeep.TapeReplays'. -/
def tapeReplaysUptoCard : Claim7 := { stood := { row := tapeReplaysUptoRow, standIns := [], harness := (true, "943ff60a88a78a0c025bea03f34bf0388649861803781b6f2518315f1664ac18"), looks := false }, kinds := [], alts := [], laidByText := true, laidKinds := [.data], laidTests := true, laidLooks := .later }
def TapeReplaysUptoCardSaid : Prop := Claim7.holds Tryz.pinned (.plain (OpenSpec.upto tapeReplaysSpec)) tapeReplaysUptoCard

/-- THE SECOND FORM's CARD OF 'cairnfieldkeep.StoreOwn'. -/
def storeOwnUptoCard : Claim7 := { stood := { row := storeOwnUptoRow, standIns := [], harness := (true, "943ff60a88a78a0c025bea03f34bf0388649861803781b6f2518315f1664ac18"), looks := false }, kinds := [], alts := [], laidByText := true, laidKinds := [.data], laidTests := true, laidLooks := .later }
def StoreOwnUptoCardSaid : Prop := Claim7.holds Tryz.pinned (.plain (OpenSpec.upto storeOwnSpec)) storeOwnUptoCard
end Rows
end Go.Proofs.YtbmkbnalembbjaaGreatDoor
