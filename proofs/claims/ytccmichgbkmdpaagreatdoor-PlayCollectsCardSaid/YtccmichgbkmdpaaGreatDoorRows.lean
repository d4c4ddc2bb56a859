/-
  NARROWER THAN 'FOR EVERY INPUT', by the rows' own cells (each row's printed sentence says how): PlayRight: laid · PlayCollects: laid.
  DERIVED. THE GIVEN ROWS OF THIS SEAT. 2 by the template 'for every input the law returns true; each argument reads behind the call as it read before'; 0 by the template 'total and deterministic' (their statements: YtccmichgbkmdpaaGreatDoorTotals.lean).
  GIVEN WITH THE SEED: the statements are not yours to turn. If you find one false, say at which input.
  Laid BY PROGRAM, IN A SANDBOX (cutbox-rows.mjs): the forced cells as the released guide's own fill.sh prints them over the translation 38e45bde7584dc39… (all of the seat's roots in one cut). By AI agents, Wed Nov 11 2026. No macro, syntax, notation, axiom, sorry.
-/
import Derived.Test.YtccmichgbkmdpaaGreatDoorChecked
import GoSem.Claim
import GoSem.ClaimJoined
import GoSem.ClaimMapViews
import Derived.JoinedTies
import Derived.KernelRfl
namespace Go.Proofs.YtccmichgbkmdpaaGreatDoor
/- THE CELL 'sum', in the pinned program and in every row, IS THE sha256 OF THE DUMP (.gsa) THAT YtccmichgbkmdpaaGreatDoorProg.lean LOADS. Nothing in Lean hashes anything: it is a label: what it is worth is what the hold of that sum in a sandbox is worth. -/
noncomputable def Tryz.pinned : Pinned := { name := "ytccmichgbkmdpaagreatdoor", sum := "38e45bde7584dc3965a845f1ef3cbf359f0dd941fcf3369974336df60170a3ab", checked := Tryz.checked }
namespace Rows
def none {H : Type} : Left H := { results := [], args := [] }

/- WHAT THE LISTED PACKAGE-LEVEL VARIABLES READ AS WHEN THE CALL BEGINS. Each datum BY PROGRAM (the guide's laid-datum.mjs) off the statement by which the dump's own 'gosem.cut.vars' lays the variable. In a bare row this is a premise. The card (YtccmichgbkmdpaaGreatDoorCards.lean) ties it to the program's text. -/
def laid_cairnfield_play_forms {H : Type} : DataW H := .agg [.agg [.lit (.bool false), .lit (.bool false), .lit (.bool false), .lit (.bool false)], .agg [.lit (.bool true), .lit (.bool true), .lit (.bool true), .lit (.bool true)], .agg [.lit (.bool false), .lit (.bool false), .lit (.bool false), .lit (.bool false)], .agg [.lit (.bool true), .lit (.bool true), .lit (.bool true), .lit (.bool false)], .agg [.lit (.bool true), .lit (.bool true), .lit (.bool true), .lit (.bool false)], .agg [.lit (.bool true), .lit (.bool true), .lit (.bool false), .lit (.bool false)], .agg [.lit (.bool true), .lit (.bool true), .lit (.bool false), .lit (.bool true)], .agg [.lit (.bool true), .lit (.bool false), .lit (.bool false), .lit (.bool false)], .agg [.lit (.bool true), .lit (.bool false), .lit (.bool false), .lit (.bool false)], .agg [.lit (.bool true), .lit (.bool true), .lit (.bool false), .lit (.bool false)], .agg [.lit (.bool true), .lit (.bool false), .lit (.bool false), .lit (.bool false)], .agg [.lit (.bool true), .lit (.bool false), .lit (.bool false), .lit (.bool true)], .agg [.lit (.bool false), .lit (.bool false), .lit (.bool false), .lit (.bool true)], .agg [.lit (.bool true), .lit (.bool false), .lit (.bool false), .lit (.bool false)]]

/-- 'cairnfieldkeep.PlayRight': WHATEVER THE INPUT: true; the input reads as it did. -/
def playRightSpec : ChangeSpec := { name := "playRight", fn := fun _ => fun
  | [d1, d2, d3] => { results := [.lit (.bool true)], args := [d1, d2, d3] }
  | _ => none }
def playRightRow : OpenClaim := { program := "ytccmichgbkmdpaagreatdoor", sum := "38e45bde7584dc3965a845f1ef3cbf359f0dd941fcf3369974336df60170a3ab", func := "cairnfield/cairnfieldkeep.PlayRight", spec := "playRight", inPlace := ["slices.overlaps[cairnfield/api.Pin]"], unfollowed := true, recurses := true, named := ["cairnfield/play.forms"], apart := false, laid := [("cairnfield/play.forms", laid_cairnfield_play_forms)] }
def PlayRightSaid : Prop := playRightRow.holds Tryz.pinned (OpenSpec.ofChange playRightSpec)

/-- ITS FALSE NEIGHBOUR: 'it returns false'. Refute it at one input. -/
def playRightWrong : ChangeSpec := { name := "playRight", fn := fun _ => fun
  | [d1, d2, d3] => { results := [.lit (.bool false)], args := [d1, d2, d3] }
  | _ => none }
def PlayRightWrongFalsely : Prop := playRightRow.holds Tryz.pinned (OpenSpec.ofChange playRightWrong)

/-- 'cairnfieldkeep.PlayCollects': WHATEVER THE INPUT: true; the input reads as it did. -/
def playCollectsSpec : ChangeSpec := { name := "playCollects", fn := fun _ => fun
  | [d1, d2, d3] => { results := [.lit (.bool true)], args := [d1, d2, d3] }
  | _ => none }
def playCollectsRow : OpenClaim := { program := "ytccmichgbkmdpaagreatdoor", sum := "38e45bde7584dc3965a845f1ef3cbf359f0dd941fcf3369974336df60170a3ab", func := "cairnfield/cairnfieldkeep.PlayCollects", spec := "playCollects", inPlace := ["slices.overlaps[cairnfield/api.Pin]", "slices.overlaps[cairnfield/api.Op]"], unfollowed := true, recurses := true, named := ["cairnfield/play.forms"], apart := false, laid := [("cairnfield/play.forms", laid_cairnfield_play_forms)] }
def PlayCollectsSaid : Prop := playCollectsRow.holds Tryz.pinned (OpenSpec.ofChange playCollectsSpec)

/-- ITS FALSE NEIGHBOUR: 'it returns false'. Refute it at one input. -/
def playCollectsWrong : ChangeSpec := { name := "playCollects", fn := fun _ => fun
  | [d1, d2, d3] => { results := [.lit (.bool false)], args := [d1, d2, d3] }
  | _ => none }
def PlayCollectsWrongFalsely : Prop := playCollectsRow.holds Tryz.pinned (OpenSpec.ofChange playCollectsWrong)

/- THE SECOND FORM. 'bulk': how many values and letters a reading holds, each counted each time it is reached (what is shared counts as often as it is met; a slice's spare places count too). A statement '..UptoSaid' is the law's where the arguments, and the package variables that the reading takes, are together of bulk at most 1048576: NARROWER than '..Said'. Prove '..Said' where nothing that the law and all that it calls make is longer than what came in: it says more and counts as full. Else prove '..UptoSaid'. A law counts once. -/
mutual
def uptoBulk {H : Type} : DataW H → Nat
  | .lit (.string bytes) => bytes.length + 1
  | .lit _ => 1
  | .nil => 1
  | .ptr d => uptoBulk d + 1
  | .slice elems spare => uptoBulkAll elems + uptoBulkAll spare + 1
  | .agg parts => uptoBulkAll parts + 1
  | .iface _ d => uptoBulk d + 1
  | .map entries => uptoBulkEntries entries + 1
  | .held _ => 1
def uptoBulkAll {H : Type} : List (DataW H) → Nat
  | [] => 0
  | d :: r => uptoBulk d + uptoBulkAll r
def uptoBulkEntries {H : Type} : List (Lit × DataW H) → Nat
  | [] => 0
  | x :: r => uptoBulkEntry x + uptoBulkEntries r
def uptoBulkEntry {H : Type} : Lit × DataW H → Nat
  | (.string bytes, d) => bytes.length + uptoBulk d + 1
  | (_, d) => uptoBulk d + 1
 end
def uptoSmall : (H : Type) → List (DataW H) → Bool := fun _ ds => decide (uptoBulkAll ds ≤ 1048576)
def OpenSpec.upto (s : _root_.Go.ChangeSpec) : _root_.Go.OpenSpec := { _root_.Go.OpenSpec.ofChange s with cond := some uptoSmall }

/-- 'cairnfieldkeep.PlayRight', WHERE WHAT IT READS IS OF BULK AT MOST 1048576: true; the input reads as it did. -/
def playRightUptoRow : OpenClaim := { program := "ytccmichgbkmdpaagreatdoor", sum := "38e45bde7584dc3965a845f1ef3cbf359f0dd941fcf3369974336df60170a3ab", func := "cairnfield/cairnfieldkeep.PlayRight", spec := "playRight", inPlace := ["slices.overlaps[cairnfield/api.Pin]"], unfollowed := true, recurses := true, named := ["cairnfield/play.forms"], apart := false, laid := [("cairnfield/play.forms", laid_cairnfield_play_forms)], narrowed := true }
def PlayRightUptoSaid : Prop := playRightUptoRow.holds Tryz.pinned (OpenSpec.upto playRightSpec)

/-- 'cairnfieldkeep.PlayCollects', WHERE WHAT IT READS IS OF BULK AT MOST 1048576: true; the input reads as it did. -/
def playCollectsUptoRow : OpenClaim := { program := "ytccmichgbkmdpaagreatdoor", sum := "38e45bde7584dc3965a845f1ef3cbf359f0dd941fcf3369974336df60170a3ab", func := "cairnfield/cairnfieldkeep.PlayCollects", spec := "playCollects", inPlace := ["slices.overlaps[cairnfield/api.Pin]", "slices.overlaps[cairnfield/api.Op]"], unfollowed := true, recurses := true, named := ["cairnfield/play.forms"], apart := false, laid := [("cairnfield/play.forms", laid_cairnfield_play_forms)], narrowed := true }
def PlayCollectsUptoSaid : Prop := playCollectsUptoRow.holds Tryz.pinned (OpenSpec.upto playCollectsSpec)

end Rows
end Go.Proofs.YtccmichgbkmdpaaGreatDoor
