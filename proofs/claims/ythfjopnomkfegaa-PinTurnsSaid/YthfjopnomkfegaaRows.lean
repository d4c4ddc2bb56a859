/-
  No cell of these rows narrows 'for every input' (looked for: loops, veiled, ifaces, maps, wideKeys, modest, calm, conditions, laid).
  DERIVED. THE GIVEN ROWS OF THIS SEAT. 6 by the template 'for every input the law returns true; each argument reads behind the call as it read before'; 0 by the template 'total and deterministic' (their statements: YthfjopnomkfegaaTotals.lean).
  GIVEN WITH THE SEED: the statements are not yours to turn. If you find one false, say at which input.
  Laid BY PROGRAM, IN A SANDBOX (cutbox-rows.mjs): the forced cells as the released guide's own fill.sh prints them over the translation 0d28881b19e84ce5… (all of the seat's roots in one cut). By AI agents, Wed Nov 11 2026. No macro, syntax, notation, axiom, sorry.
-/
import Derived.Test.YthfjopnomkfegaaChecked
import GoSem.Claim
import GoSem.ClaimJoined
import GoSem.ClaimMapViews
import Derived.JoinedTies
import Derived.KernelRfl
namespace Go.Proofs.Ythfjopnomkfegaa
/- THE CELL 'sum', in the pinned program and in every row, IS THE sha256 OF THE DUMP (.gsa) THAT YthfjopnomkfegaaProg.lean LOADS. Nothing in Lean hashes anything: it is a label: what it is worth is what the hold of that sum in a sandbox is worth. -/
noncomputable def Try.pinned : Pinned := { name := "ythfjopnomkfegaa", sum := "0d28881b19e84ce53d877925814275e448aaaf62751739ffbcf030ea1477e3ed", checked := Try.checked }
namespace Rows
def none {H : Type} : Left H := { results := [], args := [] }

/-- 'cairnfieldkeep.RootNamed': WHATEVER THE INPUT: true; the input reads as it did. -/
def rootNamedSpec : ChangeSpec := { name := "rootNamed", fn := fun _ => fun
  | [d1, d2, d3, d4] => { results := [.lit (.bool true)], args := [d1, d2, d3, d4] }
  | _ => none }
def rootNamedRow : OpenClaim := { program := "ythfjopnomkfegaa", sum := "0d28881b19e84ce53d877925814275e448aaaf62751739ffbcf030ea1477e3ed", func := "cairnfield/cairnfieldkeep.RootNamed", spec := "rootNamed", unfollowed := true, recurses := true, apart := false }
def RootNamedSaid : Prop := rootNamedRow.holds Try.pinned (OpenSpec.ofChange rootNamedSpec)

/-- ITS FALSE NEIGHBOUR: 'it returns false'. Refute it at one input. -/
def rootNamedWrong : ChangeSpec := { name := "rootNamed", fn := fun _ => fun
  | [d1, d2, d3, d4] => { results := [.lit (.bool false)], args := [d1, d2, d3, d4] }
  | _ => none }
def RootNamedWrongFalsely : Prop := rootNamedRow.holds Try.pinned (OpenSpec.ofChange rootNamedWrong)

/-- 'cairnfieldkeep.RootSwaps': WHATEVER THE INPUT: true; the input reads as it did. -/
def rootSwapsSpec : ChangeSpec := { name := "rootSwaps", fn := fun _ => fun
  | [d1, d2, d3] => { results := [.lit (.bool true)], args := [d1, d2, d3] }
  | _ => none }
def rootSwapsRow : OpenClaim := { program := "ythfjopnomkfegaa", sum := "0d28881b19e84ce53d877925814275e448aaaf62751739ffbcf030ea1477e3ed", func := "cairnfield/cairnfieldkeep.RootSwaps", spec := "rootSwaps", unfollowed := true, recurses := true, apart := false }
def RootSwapsSaid : Prop := rootSwapsRow.holds Try.pinned (OpenSpec.ofChange rootSwapsSpec)

/-- ITS FALSE NEIGHBOUR: 'it returns false'. Refute it at one input. -/
def rootSwapsWrong : ChangeSpec := { name := "rootSwaps", fn := fun _ => fun
  | [d1, d2, d3] => { results := [.lit (.bool false)], args := [d1, d2, d3] }
  | _ => none }
def RootSwapsWrongFalsely : Prop := rootSwapsRow.holds Try.pinned (OpenSpec.ofChange rootSwapsWrong)

/-- 'cairnfieldkeep.PinTurns': WHATEVER THE INPUT: true; the input reads as it did. -/
def pinTurnsSpec : ChangeSpec := { name := "pinTurns", fn := fun _ => fun
  | [d1, d2, d3] => { results := [.lit (.bool true)], args := [d1, d2, d3] }
  | _ => none }
def pinTurnsRow : OpenClaim := { program := "ythfjopnomkfegaa", sum := "0d28881b19e84ce53d877925814275e448aaaf62751739ffbcf030ea1477e3ed", func := "cairnfield/cairnfieldkeep.PinTurns", spec := "pinTurns", inPlace := ["slices.overlaps[cairnfield/api.Pin]"], unfollowed := true, recurses := true, apart := false }
def PinTurnsSaid : Prop := pinTurnsRow.holds Try.pinned (OpenSpec.ofChange pinTurnsSpec)

/-- ITS FALSE NEIGHBOUR: 'it returns false'. Refute it at one input. -/
def pinTurnsWrong : ChangeSpec := { name := "pinTurns", fn := fun _ => fun
  | [d1, d2, d3] => { results := [.lit (.bool false)], args := [d1, d2, d3] }
  | _ => none }
def PinTurnsWrongFalsely : Prop := pinTurnsRow.holds Try.pinned (OpenSpec.ofChange pinTurnsWrong)

/-- 'cairnfieldkeep.WordOwn': WHATEVER THE INPUT: true; the input reads as it did. -/
def wordOwnSpec : ChangeSpec := { name := "wordOwn", fn := fun _ => fun
  | [d1, d2, d3, d4] => { results := [.lit (.bool true)], args := [d1, d2, d3, d4] }
  | _ => none }
def wordOwnRow : OpenClaim := { program := "ythfjopnomkfegaa", sum := "0d28881b19e84ce53d877925814275e448aaaf62751739ffbcf030ea1477e3ed", func := "cairnfield/cairnfieldkeep.WordOwn", spec := "wordOwn", unfollowed := true, recurses := true, apart := false }
def WordOwnSaid : Prop := wordOwnRow.holds Try.pinned (OpenSpec.ofChange wordOwnSpec)

/-- ITS FALSE NEIGHBOUR: 'it returns false'. Refute it at one input. -/
def wordOwnWrong : ChangeSpec := { name := "wordOwn", fn := fun _ => fun
  | [d1, d2, d3, d4] => { results := [.lit (.bool false)], args := [d1, d2, d3, d4] }
  | _ => none }
def WordOwnWrongFalsely : Prop := wordOwnRow.holds Try.pinned (OpenSpec.ofChange wordOwnWrong)

/-- 'cairnfieldkeep.PinOwn': WHATEVER THE INPUT: true; the input reads as it did. -/
def pinOwnSpec : ChangeSpec := { name := "pinOwn", fn := fun _ => fun
  | [d1, d2, d3, d4] => { results := [.lit (.bool true)], args := [d1, d2, d3, d4] }
  | _ => none }
def pinOwnRow : OpenClaim := { program := "ythfjopnomkfegaa", sum := "0d28881b19e84ce53d877925814275e448aaaf62751739ffbcf030ea1477e3ed", func := "cairnfield/cairnfieldkeep.PinOwn", spec := "pinOwn", inPlace := ["slices.overlaps[cairnfield/api.Pin]"], unfollowed := true, recurses := true, apart := false }
def PinOwnSaid : Prop := pinOwnRow.holds Try.pinned (OpenSpec.ofChange pinOwnSpec)

/-- ITS FALSE NEIGHBOUR: 'it returns false'. Refute it at one input. -/
def pinOwnWrong : ChangeSpec := { name := "pinOwn", fn := fun _ => fun
  | [d1, d2, d3, d4] => { results := [.lit (.bool false)], args := [d1, d2, d3, d4] }
  | _ => none }
def PinOwnWrongFalsely : Prop := pinOwnRow.holds Try.pinned (OpenSpec.ofChange pinOwnWrong)

/-- 'cairnfieldkeep.WalkBack': WHATEVER THE INPUT: true; the input reads as it did. -/
def walkBackSpec : ChangeSpec := { name := "walkBack", fn := fun _ => fun
  | [d1, d2, d3] => { results := [.lit (.bool true)], args := [d1, d2, d3] }
  | _ => none }
def walkBackRow : OpenClaim := { program := "ythfjopnomkfegaa", sum := "0d28881b19e84ce53d877925814275e448aaaf62751739ffbcf030ea1477e3ed", func := "cairnfield/cairnfieldkeep.WalkBack", spec := "walkBack", unfollowed := true, recurses := true, apart := false }
def WalkBackSaid : Prop := walkBackRow.holds Try.pinned (OpenSpec.ofChange walkBackSpec)

/-- ITS FALSE NEIGHBOUR: 'it returns false'. Refute it at one input. -/
def walkBackWrong : ChangeSpec := { name := "walkBack", fn := fun _ => fun
  | [d1, d2, d3] => { results := [.lit (.bool false)], args := [d1, d2, d3] }
  | _ => none }
def WalkBackWrongFalsely : Prop := walkBackRow.holds Try.pinned (OpenSpec.ofChange walkBackWrong)

/- THE SECOND FORM. 'bulk': how many values and letters a reading holds, each counted each time it is reached (what is shared counts as often as it is met; a slice's spare places count too). A statement '..UptoSaid' is the law's where the arguments, and the package variables that the reading takes, are together of bulk at most 1048576: NARROWER than '..Said'. Prove '..Said' where nothing that the law and all that it calls make is longer than what came in: it says more and counts as full. Else prove '..UptoSaid'. A law counts once. -/
mutual
def uptoBulk {H : Type} : DataW H → Nat
  | .lit (.string bytes) => bytes.length + 1
  | .lit _ => 1
  | .nil => 1
  | .ptr d => uptoBulk d + 1
  | .slice elems spare => uptoBulkAll elems + uptoBulkAll spare + 1
  | .agg parts => uptoBulkAll parts + 1
  | .iface _ d => uptoBulk d + 1
  | .map entries => uptoBulkEntries entries + 1
  | .held _ => 1
def uptoBulkAll {H : Type} : List (DataW H) → Nat
  | [] => 0
  | d :: r => uptoBulk d + uptoBulkAll r
def uptoBulkEntries {H : Type} : List (Lit × DataW H) → Nat
  | [] => 0
  | x :: r => uptoBulkEntry x + uptoBulkEntries r
def uptoBulkEntry {H : Type} : Lit × DataW H → Nat
  | (.string bytes, d) => bytes.length + uptoBulk d + 1
  | (_, d) => uptoBulk d + 1
 end
def uptoSmall : (H : Type) → List (DataW H) → Bool := fun _ ds => decide (uptoBulkAll ds ≤ 1048576)
def OpenSpec.upto (s : _root_.Go.ChangeSpec) : _root_.Go.OpenSpec := { _root_.Go.OpenSpec.ofChange s with cond := some uptoSmall }

/-- 'cairnfieldkeep.RootNamed', WHERE WHAT IT READS IS OF BULK AT MOST 1048576: true; the input reads as it did. -/
def rootNamedUptoRow : OpenClaim := { program := "ythfjopnomkfegaa", sum := "0d28881b19e84ce53d877925814275e448aaaf62751739ffbcf030ea1477e3ed", func := "cairnfield/cairnfieldkeep.RootNamed", spec := "rootNamed", unfollowed := true, recurses := true, apart := false, narrowed := true }
def RootNamedUptoSaid : Prop := rootNamedUptoRow.holds Try.pinned (OpenSpec.upto rootNamedSpec)

/-- 'cairnfieldkeep.RootSwaps', WHERE WHAT IT READS IS OF BULK AT MOST 1048576: true; the input reads as it did. -/
def rootSwapsUptoRow : OpenClaim := { program := "ythfjopnomkfegaa", sum := "0d28881b19e84ce53d877925814275e448aaaf62751739ffbcf030ea1477e3ed", func := "cairnfield/cairnfieldkeep.RootSwaps", spec := "rootSwaps", unfollowed := true, recurses := true, apart := false, narrowed := true }
def RootSwapsUptoSaid : Prop := rootSwapsUptoRow.holds Try.pinned (OpenSpec.upto rootSwapsSpec)

/-- 'cairnfieldkeep.PinTurns', WHERE WHAT IT READS IS OF BULK AT MOST 1048576: true; the input reads as it did. -/
def pinTurnsUptoRow : OpenClaim := { program := "ythfjopnomkfegaa", sum := "0d28881b19e84ce53d877925814275e448aaaf62751739ffbcf030ea1477e3ed", func := "cairnfield/cairnfieldkeep.PinTurns", spec := "pinTurns", inPlace := ["slices.overlaps[cairnfield/api.Pin]"], unfollowed := true, recurses := true, apart := false, narrowed := true }
def PinTurnsUptoSaid : Prop := pinTurnsUptoRow.holds Try.pinned (OpenSpec.upto pinTurnsSpec)

/-- 'cairnfieldkeep.WordOwn', WHERE WHAT IT READS IS OF BULK AT MOST 1048576: true; the input reads as it did. -/
def wordOwnUptoRow : OpenClaim := { program := "ythfjopnomkfegaa", sum := "0d28881b19e84ce53d877925814275e448aaaf62751739ffbcf030ea1477e3ed", func := "cairnfield/cairnfieldkeep.WordOwn", spec := "wordOwn", unfollowed := true, recurses := true, apart := false, narrowed := true }
def WordOwnUptoSaid : Prop := wordOwnUptoRow.holds Try.pinned (OpenSpec.upto wordOwnSpec)

/-- 'cairnfieldkeep.PinOwn', WHERE WHAT IT READS IS OF BULK AT MOST 1048576: true; the input reads as it did. -/
def pinOwnUptoRow : OpenClaim := { program := "ythfjopnomkfegaa", sum := "0d28881b19e84ce53d877925814275e448aaaf62751739ffbcf030ea1477e3ed", func := "cairnfield/cairnfieldkeep.PinOwn", spec := "pinOwn", inPlace := ["slices.overlaps[cairnfield/api.Pin]"], unfollowed := true, recurses := true, apart := false, narrowed := true }
def PinOwnUptoSaid : Prop := pinOwnUptoRow.holds Try.pinned (OpenSpec.upto pinOwnSpec)

/-- 'cairnfieldkeep.WalkBack', WHERE WHAT IT READS IS OF BULK AT MOST 1048576: true; the input reads as it did. -/
def walkBackUptoRow : OpenClaim := { program := "ythfjopnomkfegaa", sum := "0d28881b19e84ce53d877925814275e448aaaf62751739ffbcf030ea1477e3ed", func := "cairnfield/cairnfieldkeep.WalkBack", spec := "walkBack", unfollowed := true, recurses := true, apart := false, narrowed := true }
def WalkBackUptoSaid : Prop := walkBackUptoRow.holds Try.pinned (OpenSpec.upto walkBackSpec)

end Rows
end Go.Proofs.Ythfjopnomkfegaa
