/-
  No cell of these rows narrows 'for every input' (looked for: loops, veiled, ifaces, maps, wideKeys, modest, calm, conditions, laid).
  DERIVED. THE GIVEN ROWS OF THIS SEAT. 3 by the template 'for every input the law returns true; each argument reads behind the call as it read before'; 0 by the template 'total and deterministic' (their statements: YtbmkbnalembbjaaTotals.lean).
  GIVEN WITH THE SEED: the statements are not yours to turn. If you find one false, say at which input.
  Laid BY PROGRAM, IN A SANDBOX (cutbox-rows.mjs): the forced cells as the released guide's own fill.sh prints them over the translation 432080698b8f9c90… (all of the seat's roots in one cut). By AI agents, Wed Nov 11 2026. No macro, syntax, notation, axiom, sorry.
-/
import Derived.Test.YtbmkbnalembbjaaChecked
import GoSem.Claim
import GoSem.ClaimJoined
import GoSem.ClaimMapViews
import Derived.JoinedTies
import Derived.KernelRfl
namespace Go.Proofs.Ytbmkbnalembbjaa
/- THE CELL 'sum', in the pinned program and in every row, IS THE sha256 OF THE DUMP (.gsa) THAT YtbmkbnalembbjaaProg.lean LOADS. Nothing in Lean hashes anything: it is a label: what it is worth is what the hold of that sum in a sandbox is worth. -/
noncomputable def Try.pinned : Pinned := { name := "ytbmkbnalembbjaa", sum := "432080698b8f9c90dd29929044ec2e4343a9ebb06c4ebec8219b7558e14cc28a", checked := Try.checked }
namespace Rows
def none {H : Type} : Left H := { results := [], args := [] }

/-- 'cairnfieldkeep.TapeBack': WHATEVER THE INPUT: true; the input reads as it did. -/
def tapeBackSpec : ChangeSpec := { name := "tapeBack", fn := fun _ => fun
  | [d1, d2, d3] => { results := [.lit (.bool true)], args := [d1, d2, d3] }
  | _ => none }
def tapeBackRow : OpenClaim := { program := "ytbmkbnalembbjaa", sum := "432080698b8f9c90dd29929044ec2e4343a9ebb06c4ebec8219b7558e14cc28a", func := "cairnfield/cairnfieldkeep.TapeBack", spec := "tapeBack", unfollowed := true, recurses := true, apart := false }
def TapeBackSaid : Prop := tapeBackRow.holds Try.pinned (OpenSpec.ofChange tapeBackSpec)

/-- ITS FALSE NEIGHBOUR: 'it returns false'. Refute it at one input. -/
def tapeBackWrong : ChangeSpec := { name := "tapeBack", fn := fun _ => fun
  | [d1, d2, d3] => { results := [.lit (.bool false)], args := [d1, d2, d3] }
  | _ => none }
def TapeBackWrongFalsely : Prop := tapeBackRow.holds Try.pinned (OpenSpec.ofChange tapeBackWrong)

/-- 'cairnfieldkeep.PinOwn': WHATEVER THE INPUT: true; the input reads as it did. -/
def pinOwnSpec : ChangeSpec := { name := "pinOwn", fn := fun _ => fun
  | [d1, d2, d3, d4] => { results := [.lit (.bool true)], args := [d1, d2, d3, d4] }
  | _ => none }
def pinOwnRow : OpenClaim := { program := "ytbmkbnalembbjaa", sum := "432080698b8f9c90dd29929044ec2e4343a9ebb06c4ebec8219b7558e14cc28a", func := "cairnfield/cairnfieldkeep.PinOwn", spec := "pinOwn", inPlace := ["slices.overlaps[cairnfield/api.Pin]"], unfollowed := true, recurses := true, apart := false }
def PinOwnSaid : Prop := pinOwnRow.holds Try.pinned (OpenSpec.ofChange pinOwnSpec)

/-- ITS FALSE NEIGHBOUR: 'it returns false'. Refute it at one input. -/
def pinOwnWrong : ChangeSpec := { name := "pinOwn", fn := fun _ => fun
  | [d1, d2, d3, d4] => { results := [.lit (.bool false)], args := [d1, d2, d3, d4] }
  | _ => none }
def PinOwnWrongFalsely : Prop := pinOwnRow.holds Try.pinned (OpenSpec.ofChange pinOwnWrong)

/-- 'cairnfieldkeep.SlideOwn': WHATEVER THE INPUT: true; the input reads as it did. -/
def slideOwnSpec : ChangeSpec := { name := "slideOwn", fn := fun _ => fun
  | [d1, d2, d3] => { results := [.lit (.bool true)], args := [d1, d2, d3] }
  | _ => none }
def slideOwnRow : OpenClaim := { program := "ytbmkbnalembbjaa", sum := "432080698b8f9c90dd29929044ec2e4343a9ebb06c4ebec8219b7558e14cc28a", func := "cairnfield/cairnfieldkeep.SlideOwn", spec := "slideOwn", unfollowed := true, recurses := true, apart := false }
def SlideOwnSaid : Prop := slideOwnRow.holds Try.pinned (OpenSpec.ofChange slideOwnSpec)

/-- ITS FALSE NEIGHBOUR: 'it returns false'. Refute it at one input. -/
def slideOwnWrong : ChangeSpec := { name := "slideOwn", fn := fun _ => fun
  | [d1, d2, d3] => { results := [.lit (.bool false)], args := [d1, d2, d3] }
  | _ => none }
def SlideOwnWrongFalsely : Prop := slideOwnRow.holds Try.pinned (OpenSpec.ofChange slideOwnWrong)

/- THE SECOND FORM. 'bulk': how many values and letters a reading holds, each counted each time it is reached (what is shared counts as often as it is met; a slice's spare places count too). A statement '..UptoSaid' is the law's where the arguments, and the package variables that the reading takes, are together of bulk at most 1048576: NARROWER than '..Said'. Prove '..Said' where nothing that the law and all that it calls make is longer than what came in: it says more and counts as full. Else prove '..UptoSaid'. A law counts once. -/
mutual
def uptoBulk {H : Type} : DataW H → Nat
  | .lit (.string bytes) => bytes.length + 1
  | .lit _ => 1
  | .nil => 1
  | .ptr d => uptoBulk d + 1
  | .slice elems spare => uptoBulkAll elems + uptoBulkAll spare + 1
  | .agg parts => uptoBulkAll parts + 1
  | .iface _ d => uptoBulk d + 1
  | .map entries => uptoBulkEntries entries + 1
  | .held _ => 1
def uptoBulkAll {H : Type} : List (DataW H) → Nat
  | [] => 0
  | d :: r => uptoBulk d + uptoBulkAll r
def uptoBulkEntries {H : Type} : List (Lit × DataW H) → Nat
  | [] => 0
  | x :: r => uptoBulkEntry x + uptoBulkEntries r
def uptoBulkEntry {H : Type} : Lit × DataW H → Nat
  | (.string bytes, d) => bytes.length + uptoBulk d + 1
  | (_, d) => uptoBulk d + 1
 end
def uptoSmall : (H : Type) → List (DataW H) → Bool := fun _ ds => decide (uptoBulkAll ds ≤ 1048576)
def OpenSpec.upto (s : _root_.Go.ChangeSpec) : _root_.Go.OpenSpec := { _root_.Go.OpenSpec.ofChange s with cond := some uptoSmall }

/-- 'cairnfieldkeep.TapeBack', WHERE WHAT IT READS IS OF BULK AT MOST 1048576: true; the input reads as it did. -/
def tapeBackUptoRow : OpenClaim := { program := "ytbmkbnalembbjaa", sum := "432080698b8f9c90dd29929044ec2e4343a9ebb06c4ebec8219b7558e14cc28a", func := "cairnfield/cairnfieldkeep.TapeBack", spec := "tapeBack", unfollowed := true, recurses := true, apart := false, narrowed := true }
def TapeBackUptoSaid : Prop := tapeBackUptoRow.holds Try.pinned (OpenSpec.upto tapeBackSpec)

/-- 'cairnfieldkeep.PinOwn', WHERE WHAT IT READS IS OF BULK AT MOST 1048576: true; the input reads as it did. -/
def pinOwnUptoRow : OpenClaim := { program := "ytbmkbnalembbjaa", sum := "432080698b8f9c90dd29929044ec2e4343a9ebb06c4ebec8219b7558e14cc28a", func := "cairnfield/cairnfieldkeep.PinOwn", spec := "pinOwn", inPlace := ["slices.overlaps[cairnfield/api.Pin]"], unfollowed := true, recurses := true, apart := false, narrowed := true }
def PinOwnUptoSaid : Prop := pinOwnUptoRow.holds Try.pinned (OpenSpec.upto pinOwnSpec)

/-- 'cairnfieldkeep.SlideOwn', WHERE WHAT IT READS IS OF BULK AT MOST 1048576: true; the input reads as it did. -/
def slideOwnUptoRow : OpenClaim := { program := "ytbmkbnalembbjaa", sum := "432080698b8f9c90dd29929044ec2e4343a9ebb06c4ebec8219b7558e14cc28a", func := "cairnfield/cairnfieldkeep.SlideOwn", spec := "slideOwn", unfollowed := true, recurses := true, apart := false, narrowed := true }
def SlideOwnUptoSaid : Prop := slideOwnUptoRow.holds Try.pinned (OpenSpec.upto slideOwnSpec)

end Rows
end Go.Proofs.Ytbmkbnalembbjaa
