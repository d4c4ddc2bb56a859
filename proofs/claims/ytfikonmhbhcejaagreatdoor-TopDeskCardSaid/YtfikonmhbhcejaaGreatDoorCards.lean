/-
  DERIVED. GIVEN WITH THE SEED: THE CARDS: each row of YtfikonmhbhcejaaGreatDoorRows.lean that lists a variable, with what it lists TIED to the program's text (the seventh form; the later family's looks); each row that meets fmt, with fmt's text TOLD by the authors' own Lean function (tested against real Go, not proved from fmt's source: count such statements apart). THE CARD IS WHAT COUNTS. Prove the row's statement (the work); the ties are given (YtfikonmhbhcejaaGreatDoorTie.lean); close each card by the builder's one call (the guide's Derived/Test/ToyasCard.lean, 'card_holds'). Laid BY PROGRAM, IN A SANDBOX (cutbox-door.mjs). By AI agents, Wed Nov 11 2026. No macro, syntax, notation, axiom, sorry.
-/
import Derived.Test.YtfikonmhbhcejaaGreatDoorRows
import GoSem.ClaimSeven
namespace Go.Proofs.YtfikonmhbhcejaaGreatDoor
namespace Rows

/-- THE TIED CARD OF 'cairnfieldkeep.DeskFront'. -/
def deskFrontCard : Claim7 := { stood := { row := deskFrontRow, standIns := [], harness := (true, "5d175ecfa1c7d85780465899165f25c79e1d6ab135eccb92c553a4ca87360b2b"), looks := true }, kinds := [], alts := [], laidByText := true, laidKinds := [.data, .data, .data, .data, .data, .sentinel, .sentinel, .pinned], laidTests := true, laidLooks := .later }
def DeskFrontCardSaid : Prop := Claim7.holds Tryz.pinned (.plain (OpenSpec.ofChange deskFrontSpec)) deskFrontCard

/-- THE TIED CARD OF 'cairnfieldkeep.DeskAsks'. -/
def deskAsksCard : Claim7 := { stood := { row := deskAsksRow, standIns := [], harness := (true, "5d175ecfa1c7d85780465899165f25c79e1d6ab135eccb92c553a4ca87360b2b"), looks := true }, kinds := [], alts := [], laidByText := true, laidKinds := [.data, .data, .data, .data, .data, .sentinel, .sentinel, .pinned], laidTests := true, laidLooks := .later }
def DeskAsksCardSaid : Prop := Claim7.holds Tryz.pinned (.plain (OpenSpec.ofChange deskAsksSpec)) deskAsksCard

/-- THE TIED CARD OF 'cairnfieldtop.TopStays'. -/
def topStaysCard : Claim7 := { stood := { row := topStaysRow, standIns := [], harness := (true, "5d175ecfa1c7d85780465899165f25c79e1d6ab135eccb92c553a4ca87360b2b"), looks := true }, kinds := [], alts := [], laidByText := true, laidKinds := [.data, .data, .data, .data, .data, .sentinel, .sentinel, .pinned], laidTests := true, laidLooks := .later }
def TopStaysCardSaid : Prop := Claim7.holds Tryz.pinned (.plain (OpenSpec.ofChange topStaysSpec)) topStaysCard

/-- THE TIED CARD OF 'cairnfieldtop.TopKeeps'. -/
def topKeepsCard : Claim7 := { stood := { row := topKeepsRow, standIns := [], harness := (true, "5d175ecfa1c7d85780465899165f25c79e1d6ab135eccb92c553a4ca87360b2b"), looks := true }, kinds := [], alts := [], laidByText := true, laidKinds := [.data, .data, .data, .data, .data, .sentinel, .sentinel, .pinned], laidTests := true, laidLooks := .later }
def TopKeepsCardSaid : Prop := Claim7.holds Tryz.pinned (.plain (OpenSpec.ofChange topKeepsSpec)) topKeepsCard

/-- THE TIED CARD OF 'cairnfieldtop.TopDesk'. -/
def topDeskCard : Claim7 := { stood := { row := topDeskRow, standIns := [], harness := (true, "5d175ecfa1c7d85780465899165f25c79e1d6ab135eccb92c553a4ca87360b2b"), looks := true }, kinds := [], alts := [], laidByText := true, laidKinds := [.data, .data, .data, .data, .data, .sentinel, .sentinel, .pinned], laidTests := true, laidLooks := .later }
def TopDeskCardSaid : Prop := Claim7.holds Tryz.pinned (.plain (OpenSpec.ofChange topDeskSpec)) topDeskCard

/-- THE TIED CARD OF 'cairnfieldtop.TopPlaces'. -/
def topPlacesCard : Claim7 := { stood := { row := topPlacesRow, standIns := [], harness := (true, "5d175ecfa1c7d85780465899165f25c79e1d6ab135eccb92c553a4ca87360b2b"), looks := true }, kinds := [], alts := [], laidByText := true, laidKinds := [.data, .data, .data, .data, .data, .sentinel, .sentinel, .pinned], laidTests := true, laidLooks := .later }
def TopPlacesCardSaid : Prop := Claim7.holds Tryz.pinned (.plain (OpenSpec.ofChange topPlacesSpec)) topPlacesCard

/-- THE SECOND FORM's CARD OF 'cairnfieldkeep.DeskFront'. -/
def deskFrontUptoCard : Claim7 := { stood := { row := deskFrontUptoRow, standIns := [], harness := (true, "5d175ecfa1c7d85780465899165f25c79e1d6ab135eccb92c553a4ca87360b2b"), looks := true }, kinds := [], alts := [], laidByText := true, laidKinds := [.data, .data, .data, .data, .data, .sentinel, .sentinel, .pinned], laidTests := true, laidLooks := .later }
def DeskFrontUptoCardSaid : Prop := Claim7.holds Tryz.pinned (.plain (OpenSpec.upto deskFrontSpec)) deskFrontUptoCard

/-- THE SECOND FORM's CARD OF 'cairnfieldkeep.DeskAsks'. -/
def deskAsksUptoCard : Claim7 := { stood := { row := deskAsksUptoRow, standIns := [], harness := (true, "5d175ecfa1c7d85780465899165f25c79e1d6ab135eccb92c553a4ca87360b2b"), looks := true }, kinds := [], alts := [], laidByText := true, laidKinds := [.data, .data, .data, .data, .data, .sentinel, .sentinel, .pinned], laidTests := true, laidLooks := .later }
def DeskAsksUptoCardSaid : Prop := Claim7.holds Tryz.pinned (.plain (OpenSpec.upto deskAsksSpec)) deskAsksUptoCard

/-- THE SECOND FORM's CARD OF 'cairnfieldtop.TopStays'. -/
def topStaysUptoCard : Claim7 := { stood := { row := topStaysUptoRow, standIns := [], harness := (true, "5d175ecfa1c7d85780465899165f25c79e1d6ab135eccb92c553a4ca87360b2b"), looks := true }, kinds := [], alts := [], laidByText := true, laidKinds := [.data, .data, .data, .data, .data, .sentinel, .sentinel, .pinned], laidTests := true, laidLooks := .later }
def TopStaysUptoCardSaid : Prop := Claim7.holds Tryz.pinned (.plain (OpenSpec.upto topStaysSpec)) topStaysUptoCard

/-- THE SECOND FORM's CARD OF 'cairnfieldtop.TopKeeps'. -/
def topKeepsUptoCard : Claim7 := { stood := { row := topKeepsUptoRow, standIns := [], harness := (true, "5d175ecfa1c7d85780465899165f25c79e1d6ab135eccb92c553a4ca87360b2b"), looks := true }, kinds := [], alts := [], laidByText := true, laidKinds := [.data, .data, .data, .data, .data, .sentinel, .sentinel, .pinned], laidTests := true, laidLooks := .later }
def TopKeepsUptoCardSaid : Prop := Claim7.holds Tryz.pinned (.plain (OpenSpec.upto topKeepsSpec)) topKeepsUptoCard

/-- THE SECOND FORM's CARD OF 'cairnfieldtop.TopDesk'. -/
def topDeskUptoCard : Claim7 := { stood := { row := topDeskUptoRow, standIns := [], harness := (true, "5d175ecfa1c7d85780465899165f25c79e1d6ab135eccb92c553a4ca87360b2b"), looks := true }, kinds := [], alts := [], laidByText := true, laidKinds := [.data, .data, .data, .data, .data, .sentinel, .sentinel, .pinned], laidTests := true, laidLooks := .later }
def TopDeskUptoCardSaid : Prop := Claim7.holds Tryz.pinned (.plain (OpenSpec.upto topDeskSpec)) topDeskUptoCard

/-- THE SECOND FORM's CARD OF 'cairnfieldtop.TopPlaces'. -/
def topPlacesUptoCard : Claim7 := { stood := { row := topPlacesUptoRow, standIns := [], harness := (true, "5d175ecfa1c7d85780465899165f25c79e1d6ab135eccb92c553a4ca87360b2b"), looks := true }, kinds := [], alts := [], laidByText := true, laidKinds := [.data, .data, .data, .data, .data, .sentinel, .sentinel, .pinned], laidTests := true, laidLooks := .later }
def TopPlacesUptoCardSaid : Prop := Claim7.holds Tryz.pinned (.plain (OpenSpec.upto topPlacesSpec)) topPlacesUptoCard
end Rows
end Go.Proofs.YtfikonmhbhcejaaGreatDoor
