/-
  DERIVED. GIVEN WITH THE SEED: THE CARDS: each row of YtdaanmmffiicdaaDoorRows.lean that lists a variable, with what it lists TIED to the program's text (the seventh form; the later family's looks); each row that meets fmt, with fmt's text TOLD by the authors' own Lean function (tested against real Go, not proved from fmt's source: count such statements apart). THE CARD IS WHAT COUNTS. Prove the row's statement (the work); the ties are given (YtdaanmmffiicdaaDoorTie.lean); close each card by the builder's one call (the guide's Derived/Test/ToyasCard.lean, 'card_holds'). Laid BY PROGRAM, IN A SANDBOX (cutbox-door.mjs). By AI agents, Wed Nov 11 2026. No macro, syntax, notation, axiom, sorry.
-/
import Derived.Test.YtdaanmmffiicdaaDoorRows
import GoSem.ClaimSeven
namespace Go.Proofs.YtdaanmmffiicdaaDoor
namespace Rows

/-- THE TIED CARD OF 'cairnfieldkeep.SpotCuts'. -/
def spotCutsCard : Claim7 := { stood := { row := spotCutsRow, standIns := [], harness := (true, "aca4b36a78839e0d2b4d3425f69cf5c53cae556db2b42b10cecd154a6b8bf027"), looks := false }, kinds := [], alts := [], laidByText := true, laidKinds := [.data], laidTests := true, laidLooks := .later }
def SpotCutsCardSaid : Prop := Claim7.holds Tryd.pinned (.plain (OpenSpec.ofChange spotCutsSpec)) spotCutsCard

/-- THE TIED CARD OF 'cairnfieldkeep.SpotNext'. -/
def spotNextCard : Claim7 := { stood := { row := spotNextRow, standIns := [], harness := (true, "aca4b36a78839e0d2b4d3425f69cf5c53cae556db2b42b10cecd154a6b8bf027"), looks := false }, kinds := [], alts := [], laidByText := true, laidKinds := [.data], laidTests := true, laidLooks := .later }
def SpotNextCardSaid : Prop := Claim7.holds Tryd.pinned (.plain (OpenSpec.ofChange spotNextSpec)) spotNextCard

/-- THE TIED CARD OF 'cairnfieldkeep.SpotSets'. -/
def spotSetsCard : Claim7 := { stood := { row := spotSetsRow, standIns := [], harness := (true, "aca4b36a78839e0d2b4d3425f69cf5c53cae556db2b42b10cecd154a6b8bf027"), looks := false }, kinds := [], alts := [], laidByText := true, laidKinds := [.data], laidTests := true, laidLooks := .later }
def SpotSetsCardSaid : Prop := Claim7.holds Tryd.pinned (.plain (OpenSpec.ofChange spotSetsSpec)) spotSetsCard

/-- THE TIED CARD OF 'cairnfieldkeep.SpotRuns'. -/
def spotRunsCard : Claim7 := { stood := { row := spotRunsRow, standIns := [], harness := (true, "aca4b36a78839e0d2b4d3425f69cf5c53cae556db2b42b10cecd154a6b8bf027"), looks := false }, kinds := [], alts := [], laidByText := true, laidKinds := [.data], laidTests := true, laidLooks := .later }
def SpotRunsCardSaid : Prop := Claim7.holds Tryd.pinned (.plain (OpenSpec.ofChange spotRunsSpec)) spotRunsCard

/-- THE SECOND FORM's CARD OF 'cairnfieldkeep.SpotCuts'. -/
def spotCutsUptoCard : Claim7 := { stood := { row := spotCutsUptoRow, standIns := [], harness := (true, "aca4b36a78839e0d2b4d3425f69cf5c53cae556db2b42b10cecd154a6b8bf027"), looks := false }, kinds := [], alts := [], laidByText := true, laidKinds := [.data], laidTests := true, laidLooks := .later }
def SpotCutsUptoCardSaid : Prop := Claim7.holds Tryd.pinned (.plain (OpenSpec.upto spotCutsSpec)) spotCutsUptoCard

/-- THE SECOND FORM's CARD OF 'cairnfieldkeep.SpotNext'. -/
def spotNextUptoCard : Claim7 := { stood := { row := spotNextUptoRow, standIns := [], harness := (true, "aca4b36a78839e0d2b4d3425f69cf5c53cae556db2b42b10cecd154a6b8bf027"), looks := false }, kinds := [], alts := [], laidByText := true, laidKinds := [.data], laidTests := true, laidLooks := .later }
def SpotNextUptoCardSaid : Prop := Claim7.holds Tryd.pinned (.plain (OpenSpec.upto spotNextSpec)) spotNextUptoCard

/-- THE SECOND FORM's CARD OF 'cairnfieldkeep.SpotSets'. -/
def spotSetsUptoCard : Claim7 := { stood := { row := spotSetsUptoRow, standIns := [], harness := (true, "aca4b36a78839e0d2b4d3425f69cf5c53cae556db2b42b10cecd154a6b8bf027"), looks := false }, kinds := [], alts := [], laidByText := true, laidKinds := [.data], laidTests := true, laidLooks := .later }
def SpotSetsUptoCardSaid : Prop := Claim7.holds Tryd.pinned (.plain (OpenSpec.upto spotSetsSpec)) spotSetsUptoCard

/-- THE SECOND FORM's CARD OF 'cairnfieldkeep.SpotRuns'. -/
def spotRunsUptoCard : Claim7 := { stood := { row := spotRunsUptoRow, standIns := [], harness := (true, "aca4b36a78839e0d2b4d3425f69cf5c53cae556db2b42b10cecd154a6b8bf027"), looks := false }, kinds := [], alts := [], laidByText := true, laidKinds := [.data], laidTests := true, laidLooks := .later }
def SpotRunsUptoCardSaid : Prop := Claim7.holds Tryd.pinned (.plain (OpenSpec.upto spotRunsSpec)) spotRunsUptoCard
end Rows
end Go.Proofs.YtdaanmmffiicdaaDoor
