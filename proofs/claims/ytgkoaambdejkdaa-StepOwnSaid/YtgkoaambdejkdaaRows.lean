/-
  No cell of these rows narrows 'for every input' (looked for: loops, veiled, ifaces, maps, wideKeys, modest, calm, conditions, laid).
  DERIVED. THE GIVEN ROWS OF THIS SEAT. 6 by the template 'for every input the law returns true; each argument reads behind the call as it read before'; 0 by the template 'total and deterministic' (their statements: YtgkoaambdejkdaaTotals.lean).
  GIVEN WITH THE SEED: the statements are not yours to turn. If you find one false, say at which input.
  Laid BY PROGRAM, IN A SANDBOX (cutbox-rows.mjs): the forced cells as the released guide's own fill.sh prints them over the translation f44d94d1cb97a376… (all of the seat's roots in one cut). By AI agents, Wed Nov 11 2026. No macro, syntax, notation, axiom, sorry.
-/
import Derived.Test.YtgkoaambdejkdaaChecked
import GoSem.Claim
import GoSem.ClaimJoined
import GoSem.ClaimMapViews
import Derived.JoinedTies
import Derived.KernelRfl
namespace Go.Proofs.Ytgkoaambdejkdaa
/- THE CELL 'sum', in the pinned program and in every row, IS THE sha256 OF THE DUMP (.gsa) THAT YtgkoaambdejkdaaProg.lean LOADS. Nothing in Lean hashes anything: it is a label: what it is worth is what the hold of that sum in a sandbox is worth. -/
noncomputable def Try.pinned : Pinned := { name := "ytgkoaambdejkdaa", sum := "f44d94d1cb97a376b8dd123867d6246b9c814443d606494f61ad10b6f5201259", checked := Try.checked }
namespace Rows
def none {H : Type} : Left H := { results := [], args := [] }

/-- 'cairnfieldkeep.StepEnds': WHATEVER THE INPUT: true; the input reads as it did. -/
def stepEndsSpec : ChangeSpec := { name := "stepEnds", fn := fun _ => fun
  | [d] => { results := [.lit (.bool true)], args := [d] }
  | _ => none }
def stepEndsRow : OpenClaim := { program := "ytgkoaambdejkdaa", sum := "f44d94d1cb97a376b8dd123867d6246b9c814443d606494f61ad10b6f5201259", func := "cairnfield/cairnfieldkeep.StepEnds", spec := "stepEnds", inPlace := ["slices.overlaps[int]"], unfollowed := true, recurses := true, apart := false }
def StepEndsSaid : Prop := stepEndsRow.holds Try.pinned (OpenSpec.ofChange stepEndsSpec)

/-- ITS FALSE NEIGHBOUR: 'it returns false'. Refute it at one input. -/
def stepEndsWrong : ChangeSpec := { name := "stepEnds", fn := fun _ => fun
  | [d] => { results := [.lit (.bool false)], args := [d] }
  | _ => none }
def StepEndsWrongFalsely : Prop := stepEndsRow.holds Try.pinned (OpenSpec.ofChange stepEndsWrong)

/-- 'cairnfieldkeep.StepAll': WHATEVER THE INPUT: true; the input reads as it did. -/
def stepAllSpec : ChangeSpec := { name := "stepAll", fn := fun _ => fun
  | [d1, d2] => { results := [.lit (.bool true)], args := [d1, d2] }
  | _ => none }
def stepAllRow : OpenClaim := { program := "ytgkoaambdejkdaa", sum := "f44d94d1cb97a376b8dd123867d6246b9c814443d606494f61ad10b6f5201259", func := "cairnfield/cairnfieldkeep.StepAll", spec := "stepAll", inPlace := ["slices.overlaps[int]"], unfollowed := true, recurses := true, apart := false }
def StepAllSaid : Prop := stepAllRow.holds Try.pinned (OpenSpec.ofChange stepAllSpec)

/-- ITS FALSE NEIGHBOUR: 'it returns false'. Refute it at one input. -/
def stepAllWrong : ChangeSpec := { name := "stepAll", fn := fun _ => fun
  | [d1, d2] => { results := [.lit (.bool false)], args := [d1, d2] }
  | _ => none }
def StepAllWrongFalsely : Prop := stepAllRow.holds Try.pinned (OpenSpec.ofChange stepAllWrong)

/-- 'cairnfieldkeep.StepWrites': WHATEVER THE INPUT: true; the input reads as it did. -/
def stepWritesSpec : ChangeSpec := { name := "stepWrites", fn := fun _ => fun
  | [d1, d2, d3] => { results := [.lit (.bool true)], args := [d1, d2, d3] }
  | _ => none }
def stepWritesRow : OpenClaim := { program := "ytgkoaambdejkdaa", sum := "f44d94d1cb97a376b8dd123867d6246b9c814443d606494f61ad10b6f5201259", func := "cairnfield/cairnfieldkeep.StepWrites", spec := "stepWrites", inPlace := ["slices.overlaps[int]"], unfollowed := true, recurses := true, apart := false }
def StepWritesSaid : Prop := stepWritesRow.holds Try.pinned (OpenSpec.ofChange stepWritesSpec)

/-- ITS FALSE NEIGHBOUR: 'it returns false'. Refute it at one input. -/
def stepWritesWrong : ChangeSpec := { name := "stepWrites", fn := fun _ => fun
  | [d1, d2, d3] => { results := [.lit (.bool false)], args := [d1, d2, d3] }
  | _ => none }
def StepWritesWrongFalsely : Prop := stepWritesRow.holds Try.pinned (OpenSpec.ofChange stepWritesWrong)

/-- 'cairnfieldkeep.YoungOld': WHATEVER THE INPUT: true; the input reads as it did. -/
def youngOldSpec : ChangeSpec := { name := "youngOld", fn := fun _ => fun
  | [d1, d2] => { results := [.lit (.bool true)], args := [d1, d2] }
  | _ => none }
def youngOldRow : OpenClaim := { program := "ytgkoaambdejkdaa", sum := "f44d94d1cb97a376b8dd123867d6246b9c814443d606494f61ad10b6f5201259", func := "cairnfield/cairnfieldkeep.YoungOld", spec := "youngOld", unfollowed := true, recurses := true, apart := false }
def YoungOldSaid : Prop := youngOldRow.holds Try.pinned (OpenSpec.ofChange youngOldSpec)

/-- ITS FALSE NEIGHBOUR: 'it returns false'. Refute it at one input. -/
def youngOldWrong : ChangeSpec := { name := "youngOld", fn := fun _ => fun
  | [d1, d2] => { results := [.lit (.bool false)], args := [d1, d2] }
  | _ => none }
def YoungOldWrongFalsely : Prop := youngOldRow.holds Try.pinned (OpenSpec.ofChange youngOldWrong)

/-- 'cairnfieldkeep.YoungRight': WHATEVER THE INPUT: true; the input reads as it did. -/
def youngRightSpec : ChangeSpec := { name := "youngRight", fn := fun _ => fun
  | [d1, d2, d3] => { results := [.lit (.bool true)], args := [d1, d2, d3] }
  | _ => none }
def youngRightRow : OpenClaim := { program := "ytgkoaambdejkdaa", sum := "f44d94d1cb97a376b8dd123867d6246b9c814443d606494f61ad10b6f5201259", func := "cairnfield/cairnfieldkeep.YoungRight", spec := "youngRight", inPlace := ["slices.overlaps[int]"], unfollowed := true, recurses := true, apart := false }
def YoungRightSaid : Prop := youngRightRow.holds Try.pinned (OpenSpec.ofChange youngRightSpec)

/-- ITS FALSE NEIGHBOUR: 'it returns false'. Refute it at one input. -/
def youngRightWrong : ChangeSpec := { name := "youngRight", fn := fun _ => fun
  | [d1, d2, d3] => { results := [.lit (.bool false)], args := [d1, d2, d3] }
  | _ => none }
def YoungRightWrongFalsely : Prop := youngRightRow.holds Try.pinned (OpenSpec.ofChange youngRightWrong)

/-- 'cairnfieldkeep.StepOwn': WHATEVER THE INPUT: true; the input reads as it did. -/
def stepOwnSpec : ChangeSpec := { name := "stepOwn", fn := fun _ => fun
  | [d1, d2, d3, d4, d5] => { results := [.lit (.bool true)], args := [d1, d2, d3, d4, d5] }
  | _ => none }
def stepOwnRow : OpenClaim := { program := "ytgkoaambdejkdaa", sum := "f44d94d1cb97a376b8dd123867d6246b9c814443d606494f61ad10b6f5201259", func := "cairnfield/cairnfieldkeep.StepOwn", spec := "stepOwn", inPlace := ["slices.overlaps[int]"], unfollowed := true, recurses := true, apart := false }
def StepOwnSaid : Prop := stepOwnRow.holds Try.pinned (OpenSpec.ofChange stepOwnSpec)

/-- ITS FALSE NEIGHBOUR: 'it returns false'. Refute it at one input. -/
def stepOwnWrong : ChangeSpec := { name := "stepOwn", fn := fun _ => fun
  | [d1, d2, d3, d4, d5] => { results := [.lit (.bool false)], args := [d1, d2, d3, d4, d5] }
  | _ => none }
def StepOwnWrongFalsely : Prop := stepOwnRow.holds Try.pinned (OpenSpec.ofChange stepOwnWrong)

/- THE SECOND FORM. 'bulk': how many values and letters a reading holds, each counted each time it is reached (what is shared counts as often as it is met; a slice's spare places count too). A statement '..UptoSaid' is the law's where the arguments, and the package variables that the reading takes, are together of bulk at most 1048576: NARROWER than '..Said'. Prove '..Said' where nothing that the law and all that it calls make is longer than what came in: it says more and counts as full. Else prove '..UptoSaid'. A law counts once. -/
mutual
def uptoBulk {H : Type} : DataW H → Nat
  | .lit (.string bytes) => bytes.length + 1
  | .lit _ => 1
  | .nil => 1
  | .ptr d => uptoBulk d + 1
  | .slice elems spare => uptoBulkAll elems + uptoBulkAll spare + 1
  | .agg parts => uptoBulkAll parts + 1
  | .iface _ d => uptoBulk d + 1
  | .map entries => uptoBulkEntries entries + 1
  | .held _ => 1
def uptoBulkAll {H : Type} : List (DataW H) → Nat
  | [] => 0
  | d :: r => uptoBulk d + uptoBulkAll r
def uptoBulkEntries {H : Type} : List (Lit × DataW H) → Nat
  | [] => 0
  | x :: r => uptoBulkEntry x + uptoBulkEntries r
def uptoBulkEntry {H : Type} : Lit × DataW H → Nat
  | (.string bytes, d) => bytes.length + uptoBulk d + 1
  | (_, d) => uptoBulk d + 1
 end
def uptoSmall : (H : Type) → List (DataW H) → Bool := fun _ ds => decide (uptoBulkAll ds ≤ 1048576)
def OpenSpec.upto (s : _root_.Go.ChangeSpec) : _root_.Go.OpenSpec := { _root_.Go.OpenSpec.ofChange s with cond := some uptoSmall }

/-- 'cairnfieldkeep.StepEnds', WHERE WHAT IT READS IS OF BULK AT MOST 1048576: true; the input reads as it did. -/
def stepEndsUptoRow : OpenClaim := { program := "ytgkoaambdejkdaa", sum := "f44d94d1cb97a376b8dd123867d6246b9c814443d606494f61ad10b6f5201259", func := "cairnfield/cairnfieldkeep.StepEnds", spec := "stepEnds", inPlace := ["slices.overlaps[int]"], unfollowed := true, recurses := true, apart := false, narrowed := true }
def StepEndsUptoSaid : Prop := stepEndsUptoRow.holds Try.pinned (OpenSpec.upto stepEndsSpec)

/-- 'cairnfieldkeep.StepAll', WHERE WHAT IT READS IS OF BULK AT MOST 1048576: true; the input reads as it did. -/
def stepAllUptoRow : OpenClaim := { program := "ytgkoaambdejkdaa", sum := "f44d94d1cb97a376b8dd123867d6246b9c814443d606494f61ad10b6f5201259", func := "cairnfield/cairnfieldkeep.StepAll", spec := "stepAll", inPlace := ["slices.overlaps[int]"], unfollowed := true, recurses := true, apart := false, narrowed := true }
def StepAllUptoSaid : Prop := stepAllUptoRow.holds Try.pinned (OpenSpec.upto stepAllSpec)

/-- 'cairnfieldkeep.StepWrites', WHERE WHAT IT READS IS OF BULK AT MOST 1048576: true; the input reads as it did. -/
def stepWritesUptoRow : OpenClaim := { program := "ytgkoaambdejkdaa", sum := "f44d94d1cb97a376b8dd123867d6246b9c814443d606494f61ad10b6f5201259", func := "cairnfield/cairnfieldkeep.StepWrites", spec := "stepWrites", inPlace := ["slices.overlaps[int]"], unfollowed := true, recurses := true, apart := false, narrowed := true }
def StepWritesUptoSaid : Prop := stepWritesUptoRow.holds Try.pinned (OpenSpec.upto stepWritesSpec)

/-- 'cairnfieldkeep.YoungOld', WHERE WHAT IT READS IS OF BULK AT MOST 1048576: true; the input reads as it did. -/
def youngOldUptoRow : OpenClaim := { program := "ytgkoaambdejkdaa", sum := "f44d94d1cb97a376b8dd123867d6246b9c814443d606494f61ad10b6f5201259", func := "cairnfield/cairnfieldkeep.YoungOld", spec := "youngOld", unfollowed := true, recurses := true, apart := false, narrowed := true }
def YoungOldUptoSaid : Prop := youngOldUptoRow.holds Try.pinned (OpenSpec.upto youngOldSpec)

/-- 'cairnfieldkeep.YoungRight', WHERE WHAT IT READS IS OF BULK AT MOST 1048576: true; the input reads as it did. -/
def youngRightUptoRow : OpenClaim := { program := "ytgkoaambdejkdaa", sum := "f44d94d1cb97a376b8dd123867d6246b9c814443d606494f61ad10b6f5201259", func := "cairnfield/cairnfieldkeep.YoungRight", spec := "youngRight", inPlace := ["slices.overlaps[int]"], unfollowed := true, recurses := true, apart := false, narrowed := true }
def YoungRightUptoSaid : Prop := youngRightUptoRow.holds Try.pinned (OpenSpec.upto youngRightSpec)

/-- 'cairnfieldkeep.StepOwn', WHERE WHAT IT READS IS OF BULK AT MOST 1048576: true; the input reads as it did. -/
def stepOwnUptoRow : OpenClaim := { program := "ytgkoaambdejkdaa", sum := "f44d94d1cb97a376b8dd123867d6246b9c814443d606494f61ad10b6f5201259", func := "cairnfield/cairnfieldkeep.StepOwn", spec := "stepOwn", inPlace := ["slices.overlaps[int]"], unfollowed := true, recurses := true, apart := false, narrowed := true }
def StepOwnUptoSaid : Prop := stepOwnUptoRow.holds Try.pinned (OpenSpec.upto stepOwnSpec)

end Rows
end Go.Proofs.Ytgkoaambdejkdaa
