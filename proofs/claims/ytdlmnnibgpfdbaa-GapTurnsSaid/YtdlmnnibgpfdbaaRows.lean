/-
  No cell of these rows narrows 'for every input' (looked for: loops, veiled, ifaces, maps, wideKeys, modest, calm, conditions, laid).
  DERIVED. THE GIVEN ROWS OF THIS SEAT. 6 by the template 'for every input the law returns true; each argument reads behind the call as it read before'; 0 by the template 'total and deterministic' (their statements: YtdlmnnibgpfdbaaTotals.lean).
  GIVEN WITH THE SEED: the statements are not yours to turn. If you find one false, say at which input.
  Laid BY PROGRAM, IN A SANDBOX (cutbox-rows.mjs): the forced cells as the released guide's own fill.sh prints them over the translation 89da5ba8ba9b582b… (all of the seat's roots in one cut). By AI agents, Wed Nov 11 2026. No macro, syntax, notation, axiom, sorry.
-/
import Derived.Test.YtdlmnnibgpfdbaaChecked
import GoSem.Claim
import GoSem.ClaimJoined
import GoSem.ClaimMapViews
import Derived.JoinedTies
import Derived.KernelRfl
namespace Go.Proofs.Ytdlmnnibgpfdbaa
/- THE CELL 'sum', in the pinned program and in every row, IS THE sha256 OF THE DUMP (.gsa) THAT YtdlmnnibgpfdbaaProg.lean LOADS. Nothing in Lean hashes anything: it is a label: what it is worth is what the hold of that sum in a sandbox is worth. -/
noncomputable def Try.pinned : Pinned := { name := "ytdlmnnibgpfdbaa", sum := "89da5ba8ba9b582b6d3f9dc5e4a3b9f9bbd3db29446de027fefcf97c84f725bf", checked := Try.checked }
namespace Rows
def none {H : Type} : Left H := { results := [], args := [] }

/-- 'cairnfieldkeep.HandLive': WHATEVER THE INPUT: true; the input reads as it did. -/
def handLiveSpec : ChangeSpec := { name := "handLive", fn := fun _ => fun
  | [d] => { results := [.lit (.bool true)], args := [d] }
  | _ => none }
def handLiveRow : OpenClaim := { program := "ytdlmnnibgpfdbaa", sum := "89da5ba8ba9b582b6d3f9dc5e4a3b9f9bbd3db29446de027fefcf97c84f725bf", func := "cairnfield/cairnfieldkeep.HandLive", spec := "handLive", unfollowed := true, recurses := true, apart := false }
def HandLiveSaid : Prop := handLiveRow.holds Try.pinned (OpenSpec.ofChange handLiveSpec)

/-- ITS FALSE NEIGHBOUR: 'it returns false'. Refute it at one input. -/
def handLiveWrong : ChangeSpec := { name := "handLive", fn := fun _ => fun
  | [d] => { results := [.lit (.bool false)], args := [d] }
  | _ => none }
def HandLiveWrongFalsely : Prop := handLiveRow.holds Try.pinned (OpenSpec.ofChange handLiveWrong)

/-- 'cairnfieldkeep.WalkAt': WHATEVER THE INPUT: true; the input reads as it did. -/
def walkAtSpec : ChangeSpec := { name := "walkAt", fn := fun _ => fun
  | [d1, d2] => { results := [.lit (.bool true)], args := [d1, d2] }
  | _ => none }
def walkAtRow : OpenClaim := { program := "ytdlmnnibgpfdbaa", sum := "89da5ba8ba9b582b6d3f9dc5e4a3b9f9bbd3db29446de027fefcf97c84f725bf", func := "cairnfield/cairnfieldkeep.WalkAt", spec := "walkAt", unfollowed := true, recurses := true, apart := false }
def WalkAtSaid : Prop := walkAtRow.holds Try.pinned (OpenSpec.ofChange walkAtSpec)

/-- ITS FALSE NEIGHBOUR: 'it returns false'. Refute it at one input. -/
def walkAtWrong : ChangeSpec := { name := "walkAt", fn := fun _ => fun
  | [d1, d2] => { results := [.lit (.bool false)], args := [d1, d2] }
  | _ => none }
def WalkAtWrongFalsely : Prop := walkAtRow.holds Try.pinned (OpenSpec.ofChange walkAtWrong)

/-- 'cairnfieldkeep.GapOrders': WHATEVER THE INPUT: true; the input reads as it did. -/
def gapOrdersSpec : ChangeSpec := { name := "gapOrders", fn := fun _ => fun
  | [d1, d2, d3] => { results := [.lit (.bool true)], args := [d1, d2, d3] }
  | _ => none }
def gapOrdersRow : OpenClaim := { program := "ytdlmnnibgpfdbaa", sum := "89da5ba8ba9b582b6d3f9dc5e4a3b9f9bbd3db29446de027fefcf97c84f725bf", func := "cairnfield/cairnfieldkeep.GapOrders", spec := "gapOrders", apart := false }
def GapOrdersSaid : Prop := gapOrdersRow.holds Try.pinned (OpenSpec.ofChange gapOrdersSpec)

/-- ITS FALSE NEIGHBOUR: 'it returns false'. Refute it at one input. -/
def gapOrdersWrong : ChangeSpec := { name := "gapOrders", fn := fun _ => fun
  | [d1, d2, d3] => { results := [.lit (.bool false)], args := [d1, d2, d3] }
  | _ => none }
def GapOrdersWrongFalsely : Prop := gapOrdersRow.holds Try.pinned (OpenSpec.ofChange gapOrdersWrong)

/-- 'cairnfieldkeep.WalkBack': WHATEVER THE INPUT: true; the input reads as it did. -/
def walkBackSpec : ChangeSpec := { name := "walkBack", fn := fun _ => fun
  | [d1, d2, d3] => { results := [.lit (.bool true)], args := [d1, d2, d3] }
  | _ => none }
def walkBackRow : OpenClaim := { program := "ytdlmnnibgpfdbaa", sum := "89da5ba8ba9b582b6d3f9dc5e4a3b9f9bbd3db29446de027fefcf97c84f725bf", func := "cairnfield/cairnfieldkeep.WalkBack", spec := "walkBack", unfollowed := true, recurses := true, apart := false }
def WalkBackSaid : Prop := walkBackRow.holds Try.pinned (OpenSpec.ofChange walkBackSpec)

/-- ITS FALSE NEIGHBOUR: 'it returns false'. Refute it at one input. -/
def walkBackWrong : ChangeSpec := { name := "walkBack", fn := fun _ => fun
  | [d1, d2, d3] => { results := [.lit (.bool false)], args := [d1, d2, d3] }
  | _ => none }
def WalkBackWrongFalsely : Prop := walkBackRow.holds Try.pinned (OpenSpec.ofChange walkBackWrong)

/-- 'cairnfieldkeep.GapJoins': WHATEVER THE INPUT: true; the input reads as it did. -/
def gapJoinsSpec : ChangeSpec := { name := "gapJoins", fn := fun _ => fun
  | [d] => { results := [.lit (.bool true)], args := [d] }
  | _ => none }
def gapJoinsRow : OpenClaim := { program := "ytdlmnnibgpfdbaa", sum := "89da5ba8ba9b582b6d3f9dc5e4a3b9f9bbd3db29446de027fefcf97c84f725bf", func := "cairnfield/cairnfieldkeep.GapJoins", spec := "gapJoins", unfollowed := true, recurses := true, apart := false }
def GapJoinsSaid : Prop := gapJoinsRow.holds Try.pinned (OpenSpec.ofChange gapJoinsSpec)

/-- ITS FALSE NEIGHBOUR: 'it returns false'. Refute it at one input. -/
def gapJoinsWrong : ChangeSpec := { name := "gapJoins", fn := fun _ => fun
  | [d] => { results := [.lit (.bool false)], args := [d] }
  | _ => none }
def GapJoinsWrongFalsely : Prop := gapJoinsRow.holds Try.pinned (OpenSpec.ofChange gapJoinsWrong)

/-- 'cairnfieldkeep.GapTurns': WHATEVER THE INPUT: true; the input reads as it did. -/
def gapTurnsSpec : ChangeSpec := { name := "gapTurns", fn := fun _ => fun
  | [d1, d2, d3] => { results := [.lit (.bool true)], args := [d1, d2, d3] }
  | _ => none }
def gapTurnsRow : OpenClaim := { program := "ytdlmnnibgpfdbaa", sum := "89da5ba8ba9b582b6d3f9dc5e4a3b9f9bbd3db29446de027fefcf97c84f725bf", func := "cairnfield/cairnfieldkeep.GapTurns", spec := "gapTurns", unfollowed := true, recurses := true, apart := false }
def GapTurnsSaid : Prop := gapTurnsRow.holds Try.pinned (OpenSpec.ofChange gapTurnsSpec)

/-- ITS FALSE NEIGHBOUR: 'it returns false'. Refute it at one input. -/
def gapTurnsWrong : ChangeSpec := { name := "gapTurns", fn := fun _ => fun
  | [d1, d2, d3] => { results := [.lit (.bool false)], args := [d1, d2, d3] }
  | _ => none }
def GapTurnsWrongFalsely : Prop := gapTurnsRow.holds Try.pinned (OpenSpec.ofChange gapTurnsWrong)

/- THE SECOND FORM. 'bulk': how many values and letters a reading holds, each counted each time it is reached (what is shared counts as often as it is met; a slice's spare places count too). A statement '..UptoSaid' is the law's where the arguments, and the package variables that the reading takes, are together of bulk at most 1048576: NARROWER than '..Said'. Prove '..Said' where nothing that the law and all that it calls make is longer than what came in: it says more and counts as full. Else prove '..UptoSaid'. A law counts once. -/
mutual
def uptoBulk {H : Type} : DataW H → Nat
  | .lit (.string bytes) => bytes.length + 1
  | .lit _ => 1
  | .nil => 1
  | .ptr d => uptoBulk d + 1
  | .slice elems spare => uptoBulkAll elems + uptoBulkAll spare + 1
  | .agg parts => uptoBulkAll parts + 1
  | .iface _ d => uptoBulk d + 1
  | .map entries => uptoBulkEntries entries + 1
  | .held _ => 1
def uptoBulkAll {H : Type} : List (DataW H) → Nat
  | [] => 0
  | d :: r => uptoBulk d + uptoBulkAll r
def uptoBulkEntries {H : Type} : List (Lit × DataW H) → Nat
  | [] => 0
  | x :: r => uptoBulkEntry x + uptoBulkEntries r
def uptoBulkEntry {H : Type} : Lit × DataW H → Nat
  | (.string bytes, d) => bytes.length + uptoBulk d + 1
  | (_, d) => uptoBulk d + 1
 end
def uptoSmall : (H : Type) → List (DataW H) → Bool := fun _ ds => decide (uptoBulkAll ds ≤ 1048576)
def OpenSpec.upto (s : _root_.Go.ChangeSpec) : _root_.Go.OpenSpec := { _root_.Go.OpenSpec.ofChange s with cond := some uptoSmall }

/-- 'cairnfieldkeep.HandLive', WHERE WHAT IT READS IS OF BULK AT MOST 1048576: true; the input reads as it did. -/
def handLiveUptoRow : OpenClaim := { program := "ytdlmnnibgpfdbaa", sum := "89da5ba8ba9b582b6d3f9dc5e4a3b9f9bbd3db29446de027fefcf97c84f725bf", func := "cairnfield/cairnfieldkeep.HandLive", spec := "handLive", unfollowed := true, recurses := true, apart := false, narrowed := true }
def HandLiveUptoSaid : Prop := handLiveUptoRow.holds Try.pinned (OpenSpec.upto handLiveSpec)

/-- 'cairnfieldkeep.WalkAt', WHERE WHAT IT READS IS OF BULK AT MOST 1048576: true; the input reads as it did. -/
def walkAtUptoRow : OpenClaim := { program := "ytdlmnnibgpfdbaa", sum := "89da5ba8ba9b582b6d3f9dc5e4a3b9f9bbd3db29446de027fefcf97c84f725bf", func := "cairnfield/cairnfieldkeep.WalkAt", spec := "walkAt", unfollowed := true, recurses := true, apart := false, narrowed := true }
def WalkAtUptoSaid : Prop := walkAtUptoRow.holds Try.pinned (OpenSpec.upto walkAtSpec)

/-- 'cairnfieldkeep.GapOrders', WHERE WHAT IT READS IS OF BULK AT MOST 1048576: true; the input reads as it did. -/
def gapOrdersUptoRow : OpenClaim := { program := "ytdlmnnibgpfdbaa", sum := "89da5ba8ba9b582b6d3f9dc5e4a3b9f9bbd3db29446de027fefcf97c84f725bf", func := "cairnfield/cairnfieldkeep.GapOrders", spec := "gapOrders", apart := false, narrowed := true }
def GapOrdersUptoSaid : Prop := gapOrdersUptoRow.holds Try.pinned (OpenSpec.upto gapOrdersSpec)

/-- 'cairnfieldkeep.WalkBack', WHERE WHAT IT READS IS OF BULK AT MOST 1048576: true; the input reads as it did. -/
def walkBackUptoRow : OpenClaim := { program := "ytdlmnnibgpfdbaa", sum := "89da5ba8ba9b582b6d3f9dc5e4a3b9f9bbd3db29446de027fefcf97c84f725bf", func := "cairnfield/cairnfieldkeep.WalkBack", spec := "walkBack", unfollowed := true, recurses := true, apart := false, narrowed := true }
def WalkBackUptoSaid : Prop := walkBackUptoRow.holds Try.pinned (OpenSpec.upto walkBackSpec)

/-- 'cairnfieldkeep.GapJoins', WHERE WHAT IT READS IS OF BULK AT MOST 1048576: true; the input reads as it did. -/
def gapJoinsUptoRow : OpenClaim := { program := "ytdlmnnibgpfdbaa", sum := "89da5ba8ba9b582b6d3f9dc5e4a3b9f9bbd3db29446de027fefcf97c84f725bf", func := "cairnfield/cairnfieldkeep.GapJoins", spec := "gapJoins", unfollowed := true, recurses := true, apart := false, narrowed := true }
def GapJoinsUptoSaid : Prop := gapJoinsUptoRow.holds Try.pinned (OpenSpec.upto gapJoinsSpec)

/-- 'cairnfieldkeep.GapTurns', WHERE WHAT IT READS IS OF BULK AT MOST 1048576: true; the input reads as it did. -/
def gapTurnsUptoRow : OpenClaim := { program := "ytdlmnnibgpfdbaa", sum := "89da5ba8ba9b582b6d3f9dc5e4a3b9f9bbd3db29446de027fefcf97c84f725bf", func := "cairnfield/cairnfieldkeep.GapTurns", spec := "gapTurns", unfollowed := true, recurses := true, apart := false, narrowed := true }
def GapTurnsUptoSaid : Prop := gapTurnsUptoRow.holds Try.pinned (OpenSpec.upto gapTurnsSpec)

end Rows
end Go.Proofs.Ytdlmnnibgpfdbaa
