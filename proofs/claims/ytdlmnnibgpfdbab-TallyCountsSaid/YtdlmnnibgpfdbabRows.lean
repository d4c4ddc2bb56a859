/-
  No cell of these rows narrows 'for every input' (looked for: loops, veiled, ifaces, maps, wideKeys, modest, calm, conditions, laid).
  DERIVED. THE GIVEN ROWS OF THIS SEAT. 6 by the template 'for every input the law returns true; each argument reads behind the call as it read before'; 0 by the template 'total and deterministic' (their statements: YtdlmnnibgpfdbabTotals.lean).
  GIVEN WITH THE SEED: the statements are not yours to turn. If you find one false, say at which input.
  Laid BY PROGRAM, IN A SANDBOX (cutbox-rows.mjs): the forced cells as the released guide's own fill.sh prints them over the translation 3344bc47210716e9… (all of the seat's roots in one cut). By AI agents, Wed Nov 11 2026. No macro, syntax, notation, axiom, sorry.
-/
import Derived.Test.YtdlmnnibgpfdbabChecked
import GoSem.Claim
import GoSem.ClaimJoined
import GoSem.ClaimMapViews
import Derived.JoinedTies
import Derived.KernelRfl
namespace Go.Proofs.Ytdlmnnibgpfdbab
/- THE CELL 'sum', in the pinned program and in every row, IS THE sha256 OF THE DUMP (.gsa) THAT YtdlmnnibgpfdbabProg.lean LOADS. Nothing in Lean hashes anything: it is a label: what it is worth is what the hold of that sum in a sandbox is worth. -/
noncomputable def Try.pinned : Pinned := { name := "ytdlmnnibgpfdbab", sum := "3344bc47210716e92e482a303457f2405b52f1c2becc484a3b574eb47f4893a3", checked := Try.checked }
namespace Rows
def none {H : Type} : Left H := { results := [], args := [] }

/-- 'cairnfieldkeep.TwinWhole': WHATEVER THE INPUT: true; the input reads as it did. -/
def twinWholeSpec : ChangeSpec := { name := "twinWhole", fn := fun _ => fun
  | [d] => { results := [.lit (.bool true)], args := [d] }
  | _ => none }
def twinWholeRow : OpenClaim := { program := "ytdlmnnibgpfdbab", sum := "3344bc47210716e92e482a303457f2405b52f1c2becc484a3b574eb47f4893a3", func := "cairnfield/cairnfieldkeep.TwinWhole", spec := "twinWhole", unfollowed := true, recurses := true, apart := false }
def TwinWholeSaid : Prop := twinWholeRow.holds Try.pinned (OpenSpec.ofChange twinWholeSpec)

/-- ITS FALSE NEIGHBOUR: 'it returns false'. Refute it at one input. -/
def twinWholeWrong : ChangeSpec := { name := "twinWhole", fn := fun _ => fun
  | [d] => { results := [.lit (.bool false)], args := [d] }
  | _ => none }
def TwinWholeWrongFalsely : Prop := twinWholeRow.holds Try.pinned (OpenSpec.ofChange twinWholeWrong)

/-- 'cairnfieldkeep.TwinTaken': WHATEVER THE INPUT: true; the input reads as it did. -/
def twinTakenSpec : ChangeSpec := { name := "twinTaken", fn := fun _ => fun
  | [d1, d2] => { results := [.lit (.bool true)], args := [d1, d2] }
  | _ => none }
def twinTakenRow : OpenClaim := { program := "ytdlmnnibgpfdbab", sum := "3344bc47210716e92e482a303457f2405b52f1c2becc484a3b574eb47f4893a3", func := "cairnfield/cairnfieldkeep.TwinTaken", spec := "twinTaken", inPlace := ["slices.overlaps[cairnfield/api.Room]"], unfollowed := true, recurses := true, apart := false }
def TwinTakenSaid : Prop := twinTakenRow.holds Try.pinned (OpenSpec.ofChange twinTakenSpec)

/-- ITS FALSE NEIGHBOUR: 'it returns false'. Refute it at one input. -/
def twinTakenWrong : ChangeSpec := { name := "twinTaken", fn := fun _ => fun
  | [d1, d2] => { results := [.lit (.bool false)], args := [d1, d2] }
  | _ => none }
def TwinTakenWrongFalsely : Prop := twinTakenRow.holds Try.pinned (OpenSpec.ofChange twinTakenWrong)

/-- 'cairnfieldkeep.TwinBack': WHATEVER THE INPUT: true; the input reads as it did. -/
def twinBackSpec : ChangeSpec := { name := "twinBack", fn := fun _ => fun
  | [d1, d2] => { results := [.lit (.bool true)], args := [d1, d2] }
  | _ => none }
def twinBackRow : OpenClaim := { program := "ytdlmnnibgpfdbab", sum := "3344bc47210716e92e482a303457f2405b52f1c2becc484a3b574eb47f4893a3", func := "cairnfield/cairnfieldkeep.TwinBack", spec := "twinBack", inPlace := ["slices.overlaps[cairnfield/api.Room]"], unfollowed := true, recurses := true, apart := false }
def TwinBackSaid : Prop := twinBackRow.holds Try.pinned (OpenSpec.ofChange twinBackSpec)

/-- ITS FALSE NEIGHBOUR: 'it returns false'. Refute it at one input. -/
def twinBackWrong : ChangeSpec := { name := "twinBack", fn := fun _ => fun
  | [d1, d2] => { results := [.lit (.bool false)], args := [d1, d2] }
  | _ => none }
def TwinBackWrongFalsely : Prop := twinBackRow.holds Try.pinned (OpenSpec.ofChange twinBackWrong)

/-- 'cairnfieldkeep.TallyCounts': WHATEVER THE INPUT: true; the input reads as it did. -/
def tallyCountsSpec : ChangeSpec := { name := "tallyCounts", fn := fun _ => fun
  | [d1, d2] => { results := [.lit (.bool true)], args := [d1, d2] }
  | _ => none }
def tallyCountsRow : OpenClaim := { program := "ytdlmnnibgpfdbab", sum := "3344bc47210716e92e482a303457f2405b52f1c2becc484a3b574eb47f4893a3", func := "cairnfield/cairnfieldkeep.TallyCounts", spec := "tallyCounts", unfollowed := true, recurses := true, apart := false }
def TallyCountsSaid : Prop := tallyCountsRow.holds Try.pinned (OpenSpec.ofChange tallyCountsSpec)

/-- ITS FALSE NEIGHBOUR: 'it returns false'. Refute it at one input. -/
def tallyCountsWrong : ChangeSpec := { name := "tallyCounts", fn := fun _ => fun
  | [d1, d2] => { results := [.lit (.bool false)], args := [d1, d2] }
  | _ => none }
def TallyCountsWrongFalsely : Prop := tallyCountsRow.holds Try.pinned (OpenSpec.ofChange tallyCountsWrong)

/-- 'cairnfieldkeep.PlanGaps': WHATEVER THE INPUT: true; the input reads as it did. -/
def planGapsSpec : ChangeSpec := { name := "planGaps", fn := fun _ => fun
  | [d1, d2, d3] => { results := [.lit (.bool true)], args := [d1, d2, d3] }
  | _ => none }
def planGapsRow : OpenClaim := { program := "ytdlmnnibgpfdbab", sum := "3344bc47210716e92e482a303457f2405b52f1c2becc484a3b574eb47f4893a3", func := "cairnfield/cairnfieldkeep.PlanGaps", spec := "planGaps", unfollowed := true, recurses := true, apart := false }
def PlanGapsSaid : Prop := planGapsRow.holds Try.pinned (OpenSpec.ofChange planGapsSpec)

/-- ITS FALSE NEIGHBOUR: 'it returns false'. Refute it at one input. -/
def planGapsWrong : ChangeSpec := { name := "planGaps", fn := fun _ => fun
  | [d1, d2, d3] => { results := [.lit (.bool false)], args := [d1, d2, d3] }
  | _ => none }
def PlanGapsWrongFalsely : Prop := planGapsRow.holds Try.pinned (OpenSpec.ofChange planGapsWrong)

/-- 'cairnfieldkeep.PlanDown': WHATEVER THE INPUT: true; the input reads as it did. -/
def planDownSpec : ChangeSpec := { name := "planDown", fn := fun _ => fun
  | [d1, d2, d3] => { results := [.lit (.bool true)], args := [d1, d2, d3] }
  | _ => none }
def planDownRow : OpenClaim := { program := "ytdlmnnibgpfdbab", sum := "3344bc47210716e92e482a303457f2405b52f1c2becc484a3b574eb47f4893a3", func := "cairnfield/cairnfieldkeep.PlanDown", spec := "planDown", unfollowed := true, recurses := true, apart := false }
def PlanDownSaid : Prop := planDownRow.holds Try.pinned (OpenSpec.ofChange planDownSpec)

/-- ITS FALSE NEIGHBOUR: 'it returns false'. Refute it at one input. -/
def planDownWrong : ChangeSpec := { name := "planDown", fn := fun _ => fun
  | [d1, d2, d3] => { results := [.lit (.bool false)], args := [d1, d2, d3] }
  | _ => none }
def PlanDownWrongFalsely : Prop := planDownRow.holds Try.pinned (OpenSpec.ofChange planDownWrong)

/- THE SECOND FORM. 'bulk': how many values and letters a reading holds, each counted each time it is reached (what is shared counts as often as it is met; a slice's spare places count too). A statement '..UptoSaid' is the law's where the arguments, and the package variables that the reading takes, are together of bulk at most 1048576: NARROWER than '..Said'. Prove '..Said' where nothing that the law and all that it calls make is longer than what came in: it says more and counts as full. Else prove '..UptoSaid'. A law counts once. -/
mutual
def uptoBulk {H : Type} : DataW H → Nat
  | .lit (.string bytes) => bytes.length + 1
  | .lit _ => 1
  | .nil => 1
  | .ptr d => uptoBulk d + 1
  | .slice elems spare => uptoBulkAll elems + uptoBulkAll spare + 1
  | .agg parts => uptoBulkAll parts + 1
  | .iface _ d => uptoBulk d + 1
  | .map entries => uptoBulkEntries entries + 1
  | .held _ => 1
def uptoBulkAll {H : Type} : List (DataW H) → Nat
  | [] => 0
  | d :: r => uptoBulk d + uptoBulkAll r
def uptoBulkEntries {H : Type} : List (Lit × DataW H) → Nat
  | [] => 0
  | x :: r => uptoBulkEntry x + uptoBulkEntries r
def uptoBulkEntry {H : Type} : Lit × DataW H → Nat
  | (.string bytes, d) => bytes.length + uptoBulk d + 1
  | (_, d) => uptoBulk d + 1
 end
def uptoSmall : (H : Type) → List (DataW H) → Bool := fun _ ds => decide (uptoBulkAll ds ≤ 1048576)
def OpenSpec.upto (s : _root_.Go.ChangeSpec) : _root_.Go.OpenSpec := { _root_.Go.OpenSpec.ofChange s with cond := some uptoSmall }

/-- 'cairnfieldkeep.TwinWhole', WHERE WHAT IT READS IS OF BULK AT MOST 1048576: true; the input reads as it did. -/
def twinWholeUptoRow : OpenClaim := { program := "ytdlmnnibgpfdbab", sum := "3344bc47210716e92e482a303457f2405b52f1c2becc484a3b574eb47f4893a3", func := "cairnfield/cairnfieldkeep.TwinWhole", spec := "twinWhole", unfollowed := true, recurses := true, apart := false, narrowed := true }
def TwinWholeUptoSaid : Prop := twinWholeUptoRow.holds Try.pinned (OpenSpec.upto twinWholeSpec)

/-- 'cairnfieldkeep.TwinTaken', WHERE WHAT IT READS IS OF BULK AT MOST 1048576: true; the input reads as it did. -/
def twinTakenUptoRow : OpenClaim := { program := "ytdlmnnibgpfdbab", sum := "3344bc47210716e92e482a303457f2405b52f1c2becc484a3b574eb47f4893a3", func := "cairnfield/cairnfieldkeep.TwinTaken", spec := "twinTaken", inPlace := ["slices.overlaps[cairnfield/api.Room]"], unfollowed := true, recurses := true, apart := false, narrowed := true }
def TwinTakenUptoSaid : Prop := twinTakenUptoRow.holds Try.pinned (OpenSpec.upto twinTakenSpec)

/-- 'cairnfieldkeep.TwinBack', WHERE WHAT IT READS IS OF BULK AT MOST 1048576: true; the input reads as it did. -/
def twinBackUptoRow : OpenClaim := { program := "ytdlmnnibgpfdbab", sum := "3344bc47210716e92e482a303457f2405b52f1c2becc484a3b574eb47f4893a3", func := "cairnfield/cairnfieldkeep.TwinBack", spec := "twinBack", inPlace := ["slices.overlaps[cairnfield/api.Room]"], unfollowed := true, recurses := true, apart := false, narrowed := true }
def TwinBackUptoSaid : Prop := twinBackUptoRow.holds Try.pinned (OpenSpec.upto twinBackSpec)

/-- 'cairnfieldkeep.TallyCounts', WHERE WHAT IT READS IS OF BULK AT MOST 1048576: true; the input reads as it did. -/
def tallyCountsUptoRow : OpenClaim := { program := "ytdlmnnibgpfdbab", sum := "3344bc47210716e92e482a303457f2405b52f1c2becc484a3b574eb47f4893a3", func := "cairnfield/cairnfieldkeep.TallyCounts", spec := "tallyCounts", unfollowed := true, recurses := true, apart := false, narrowed := true }
def TallyCountsUptoSaid : Prop := tallyCountsUptoRow.holds Try.pinned (OpenSpec.upto tallyCountsSpec)

/-- 'cairnfieldkeep.PlanGaps', WHERE WHAT IT READS IS OF BULK AT MOST 1048576: true; the input reads as it did. -/
def planGapsUptoRow : OpenClaim := { program := "ytdlmnnibgpfdbab", sum := "3344bc47210716e92e482a303457f2405b52f1c2becc484a3b574eb47f4893a3", func := "cairnfield/cairnfieldkeep.PlanGaps", spec := "planGaps", unfollowed := true, recurses := true, apart := false, narrowed := true }
def PlanGapsUptoSaid : Prop := planGapsUptoRow.holds Try.pinned (OpenSpec.upto planGapsSpec)

/-- 'cairnfieldkeep.PlanDown', WHERE WHAT IT READS IS OF BULK AT MOST 1048576: true; the input reads as it did. -/
def planDownUptoRow : OpenClaim := { program := "ytdlmnnibgpfdbab", sum := "3344bc47210716e92e482a303457f2405b52f1c2becc484a3b574eb47f4893a3", func := "cairnfield/cairnfieldkeep.PlanDown", spec := "planDown", unfollowed := true, recurses := true, apart := false, narrowed := true }
def PlanDownUptoSaid : Prop := planDownUptoRow.holds Try.pinned (OpenSpec.upto planDownSpec)

end Rows
end Go.Proofs.Ytdlmnnibgpfdbab
