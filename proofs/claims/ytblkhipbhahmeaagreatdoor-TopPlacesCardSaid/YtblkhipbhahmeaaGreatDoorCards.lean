/-
  DERIVED. GIVEN WITH THE SEED: THE CARDS: each row of YtblkhipbhahmeaaGreatDoorRows.lean that lists a variable, with what it lists TIED to the program's text (the seventh form; the later family's looks); each row that meets fmt, with fmt's text TOLD by the authors' own Lean function (tested against real Go, not proved from fmt's source: count such statements apart). THE CARD IS WHAT COUNTS. Prove the row's statement (the work); the ties are given (YtblkhipbhahmeaaGreatDoorTie.lean); close each card by the builder's one call (the guide's Derived/Test/ToyasCard.lean, 'card_holds'). Laid BY PROGRAM, IN A SANDBOX (cutbox-door.mjs). By AI agents, Wed Nov 11 2026. No macro, syntax, notation, axiom, sorry.
-/
import Derived.Test.YtblkhipbhahmeaaGreatDoorRows
import GoSem.ClaimSeven
namespace Go.Proofs.YtblkhipbhahmeaaGreatDoor
namespace Rows

/-- THE TIED CARD OF 'cairnfieldtop.TopPlaces'. -/
def topPlacesCard : Claim7 := { stood := { row := topPlacesRow, standIns := [], harness := (true, "329d3ec9ac129d2a633472a88cbeafaf5eafc36aa3d3a1a00d1e4bed079bffdf"), looks := true }, kinds := [], alts := [], laidByText := true, laidKinds := [.data, .data, .data, .data, .data, .sentinel, .sentinel, .pinned], laidTests := true, laidLooks := .later }
def TopPlacesCardSaid : Prop := Claim7.holds Tryz.pinned (.plain (OpenSpec.ofChange topPlacesSpec)) topPlacesCard

/-- THE SECOND FORM's CARD OF 'cairnfieldtop.TopPlaces'. -/
def topPlacesUptoCard : Claim7 := { stood := { row := topPlacesUptoRow, standIns := [], harness := (true, "329d3ec9ac129d2a633472a88cbeafaf5eafc36aa3d3a1a00d1e4bed079bffdf"), looks := true }, kinds := [], alts := [], laidByText := true, laidKinds := [.data, .data, .data, .data, .data, .sentinel, .sentinel, .pinned], laidTests := true, laidLooks := .later }
def TopPlacesUptoCardSaid : Prop := Claim7.holds Tryz.pinned (.plain (OpenSpec.upto topPlacesSpec)) topPlacesUptoCard
end Rows
end Go.Proofs.YtblkhipbhahmeaaGreatDoor
