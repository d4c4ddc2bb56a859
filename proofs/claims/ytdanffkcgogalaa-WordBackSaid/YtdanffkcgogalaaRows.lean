/-
  No cell of these rows narrows 'for every input' (looked for: loops, veiled, ifaces, maps, wideKeys, modest, calm, conditions, laid).
  DERIVED. THE GIVEN ROWS OF THIS SEAT. 8 by the template 'for every input the law returns true; each argument reads behind the call as it read before'; 0 by the template 'total and deterministic' (their statements: YtdanffkcgogalaaTotals.lean).
  GIVEN WITH THE SEED: the statements are not yours to turn. If you find one false, say at which input.
  Laid BY PROGRAM, IN A SANDBOX (cutbox-rows.mjs): the forced cells as the released guide's own fill.sh prints them over the translation 91057d15b8b4628c… (all of the seat's roots in one cut). By AI agents, Wed Nov 11 2026. No macro, syntax, notation, axiom, sorry.
-/
import Derived.Test.YtdanffkcgogalaaChecked
import GoSem.Claim
import GoSem.ClaimJoined
import GoSem.ClaimMapViews
import Derived.JoinedTies
import Derived.KernelRfl
namespace Go.Proofs.Ytdanffkcgogalaa
/- THE CELL 'sum', in the pinned program and in every row, IS THE sha256 OF THE DUMP (.gsa) THAT YtdanffkcgogalaaProg.lean LOADS. Nothing in Lean hashes anything: it is a label: what it is worth is what the hold of that sum in a sandbox is worth. -/
noncomputable def Try.pinned : Pinned := { name := "ytdanffkcgogalaa", sum := "91057d15b8b4628c1831092f27a5af8fcc28999c83ce40bcf276a223fa639680", checked := Try.checked }
namespace Rows
def none {H : Type} : Left H := { results := [], args := [] }

/-- 'cairnfieldkeep.WordMoves': WHATEVER THE INPUT: true; the input reads as it did. -/
def wordMovesSpec : ChangeSpec := { name := "wordMoves", fn := fun _ => fun
  | [d1, d2, d3, d4, d5] => { results := [.lit (.bool true)], args := [d1, d2, d3, d4, d5] }
  | _ => none }
def wordMovesRow : OpenClaim := { program := "ytdanffkcgogalaa", sum := "91057d15b8b4628c1831092f27a5af8fcc28999c83ce40bcf276a223fa639680", func := "cairnfield/cairnfieldkeep.WordMoves", spec := "wordMoves", apart := false }
def WordMovesSaid : Prop := wordMovesRow.holds Try.pinned (OpenSpec.ofChange wordMovesSpec)

/-- ITS FALSE NEIGHBOUR: 'it returns false'. Refute it at one input. -/
def wordMovesWrong : ChangeSpec := { name := "wordMoves", fn := fun _ => fun
  | [d1, d2, d3, d4, d5] => { results := [.lit (.bool false)], args := [d1, d2, d3, d4, d5] }
  | _ => none }
def WordMovesWrongFalsely : Prop := wordMovesRow.holds Try.pinned (OpenSpec.ofChange wordMovesWrong)

/-- 'cairnfieldkeep.WordReads': WHATEVER THE INPUT: true; the input reads as it did. -/
def wordReadsSpec : ChangeSpec := { name := "wordReads", fn := fun _ => fun
  | [d1, d2, d3, d4] => { results := [.lit (.bool true)], args := [d1, d2, d3, d4] }
  | _ => none }
def wordReadsRow : OpenClaim := { program := "ytdanffkcgogalaa", sum := "91057d15b8b4628c1831092f27a5af8fcc28999c83ce40bcf276a223fa639680", func := "cairnfield/cairnfieldkeep.WordReads", spec := "wordReads", apart := false }
def WordReadsSaid : Prop := wordReadsRow.holds Try.pinned (OpenSpec.ofChange wordReadsSpec)

/-- ITS FALSE NEIGHBOUR: 'it returns false'. Refute it at one input. -/
def wordReadsWrong : ChangeSpec := { name := "wordReads", fn := fun _ => fun
  | [d1, d2, d3, d4] => { results := [.lit (.bool false)], args := [d1, d2, d3, d4] }
  | _ => none }
def WordReadsWrongFalsely : Prop := wordReadsRow.holds Try.pinned (OpenSpec.ofChange wordReadsWrong)

/-- 'cairnfieldkeep.WalkTiles': WHATEVER THE INPUT: true; the input reads as it did. -/
def walkTilesSpec : ChangeSpec := { name := "walkTiles", fn := fun _ => fun
  | [d] => { results := [.lit (.bool true)], args := [d] }
  | _ => none }
def walkTilesRow : OpenClaim := { program := "ytdanffkcgogalaa", sum := "91057d15b8b4628c1831092f27a5af8fcc28999c83ce40bcf276a223fa639680", func := "cairnfield/cairnfieldkeep.WalkTiles", spec := "walkTiles", apart := false }
def WalkTilesSaid : Prop := walkTilesRow.holds Try.pinned (OpenSpec.ofChange walkTilesSpec)

/-- ITS FALSE NEIGHBOUR: 'it returns false'. Refute it at one input. -/
def walkTilesWrong : ChangeSpec := { name := "walkTiles", fn := fun _ => fun
  | [d] => { results := [.lit (.bool false)], args := [d] }
  | _ => none }
def WalkTilesWrongFalsely : Prop := walkTilesRow.holds Try.pinned (OpenSpec.ofChange walkTilesWrong)

/-- 'cairnfieldkeep.HeadBack': WHATEVER THE INPUT: true; the input reads as it did. -/
def headBackSpec : ChangeSpec := { name := "headBack", fn := fun _ => fun
  | [d1, d2] => { results := [.lit (.bool true)], args := [d1, d2] }
  | _ => none }
def headBackRow : OpenClaim := { program := "ytdanffkcgogalaa", sum := "91057d15b8b4628c1831092f27a5af8fcc28999c83ce40bcf276a223fa639680", func := "cairnfield/cairnfieldkeep.HeadBack", spec := "headBack", unfollowed := true, recurses := true, apart := false }
def HeadBackSaid : Prop := headBackRow.holds Try.pinned (OpenSpec.ofChange headBackSpec)

/-- ITS FALSE NEIGHBOUR: 'it returns false'. Refute it at one input. -/
def headBackWrong : ChangeSpec := { name := "headBack", fn := fun _ => fun
  | [d1, d2] => { results := [.lit (.bool false)], args := [d1, d2] }
  | _ => none }
def HeadBackWrongFalsely : Prop := headBackRow.holds Try.pinned (OpenSpec.ofChange headBackWrong)

/-- 'cairnfieldkeep.WordBack': WHATEVER THE INPUT: true; the input reads as it did. -/
def wordBackSpec : ChangeSpec := { name := "wordBack", fn := fun _ => fun
  | [d1, d2] => { results := [.lit (.bool true)], args := [d1, d2] }
  | _ => none }
def wordBackRow : OpenClaim := { program := "ytdanffkcgogalaa", sum := "91057d15b8b4628c1831092f27a5af8fcc28999c83ce40bcf276a223fa639680", func := "cairnfield/cairnfieldkeep.WordBack", spec := "wordBack", apart := false }
def WordBackSaid : Prop := wordBackRow.holds Try.pinned (OpenSpec.ofChange wordBackSpec)

/-- ITS FALSE NEIGHBOUR: 'it returns false'. Refute it at one input. -/
def wordBackWrong : ChangeSpec := { name := "wordBack", fn := fun _ => fun
  | [d1, d2] => { results := [.lit (.bool false)], args := [d1, d2] }
  | _ => none }
def WordBackWrongFalsely : Prop := wordBackRow.holds Try.pinned (OpenSpec.ofChange wordBackWrong)

/-- 'cairnfieldkeep.WordApart': WHATEVER THE INPUT: true; the input reads as it did. -/
def wordApartSpec : ChangeSpec := { name := "wordApart", fn := fun _ => fun
  | [d1, d2, d3, d4, d5, d6, d7] => { results := [.lit (.bool true)], args := [d1, d2, d3, d4, d5, d6, d7] }
  | _ => none }
def wordApartRow : OpenClaim := { program := "ytdanffkcgogalaa", sum := "91057d15b8b4628c1831092f27a5af8fcc28999c83ce40bcf276a223fa639680", func := "cairnfield/cairnfieldkeep.WordApart", spec := "wordApart", unfollowed := true, recurses := true, apart := false }
def WordApartSaid : Prop := wordApartRow.holds Try.pinned (OpenSpec.ofChange wordApartSpec)

/-- ITS FALSE NEIGHBOUR: 'it returns false'. Refute it at one input. -/
def wordApartWrong : ChangeSpec := { name := "wordApart", fn := fun _ => fun
  | [d1, d2, d3, d4, d5, d6, d7] => { results := [.lit (.bool false)], args := [d1, d2, d3, d4, d5, d6, d7] }
  | _ => none }
def WordApartWrongFalsely : Prop := wordApartRow.holds Try.pinned (OpenSpec.ofChange wordApartWrong)

/-- 'cairnfieldkeep.HandOnce': WHATEVER THE INPUT: true; the input reads as it did. -/
def handOnceSpec : ChangeSpec := { name := "handOnce", fn := fun _ => fun
  | [d1, d2, d3] => { results := [.lit (.bool true)], args := [d1, d2, d3] }
  | _ => none }
def handOnceRow : OpenClaim := { program := "ytdanffkcgogalaa", sum := "91057d15b8b4628c1831092f27a5af8fcc28999c83ce40bcf276a223fa639680", func := "cairnfield/cairnfieldkeep.HandOnce", spec := "handOnce", unfollowed := true, recurses := true, apart := false }
def HandOnceSaid : Prop := handOnceRow.holds Try.pinned (OpenSpec.ofChange handOnceSpec)

/-- ITS FALSE NEIGHBOUR: 'it returns false'. Refute it at one input. -/
def handOnceWrong : ChangeSpec := { name := "handOnce", fn := fun _ => fun
  | [d1, d2, d3] => { results := [.lit (.bool false)], args := [d1, d2, d3] }
  | _ => none }
def HandOnceWrongFalsely : Prop := handOnceRow.holds Try.pinned (OpenSpec.ofChange handOnceWrong)

/-- 'cairnfieldkeep.HandLooks': WHATEVER THE INPUT: true; the input reads as it did. -/
def handLooksSpec : ChangeSpec := { name := "handLooks", fn := fun _ => fun
  | [d1, d2, d3] => { results := [.lit (.bool true)], args := [d1, d2, d3] }
  | _ => none }
def handLooksRow : OpenClaim := { program := "ytdanffkcgogalaa", sum := "91057d15b8b4628c1831092f27a5af8fcc28999c83ce40bcf276a223fa639680", func := "cairnfield/cairnfieldkeep.HandLooks", spec := "handLooks", unfollowed := true, recurses := true, apart := false }
def HandLooksSaid : Prop := handLooksRow.holds Try.pinned (OpenSpec.ofChange handLooksSpec)

/-- ITS FALSE NEIGHBOUR: 'it returns false'. Refute it at one input. -/
def handLooksWrong : ChangeSpec := { name := "handLooks", fn := fun _ => fun
  | [d1, d2, d3] => { results := [.lit (.bool false)], args := [d1, d2, d3] }
  | _ => none }
def HandLooksWrongFalsely : Prop := handLooksRow.holds Try.pinned (OpenSpec.ofChange handLooksWrong)

/- THE SECOND FORM. 'bulk': how many values and letters a reading holds, each counted each time it is reached (what is shared counts as often as it is met; a slice's spare places count too). A statement '..UptoSaid' is the law's where the arguments, and the package variables that the reading takes, are together of bulk at most 1048576: NARROWER than '..Said'. Prove '..Said' where nothing that the law and all that it calls make is longer than what came in: it says more and counts as full. Else prove '..UptoSaid'. A law counts once. -/
mutual
def uptoBulk {H : Type} : DataW H → Nat
  | .lit (.string bytes) => bytes.length + 1
  | .lit _ => 1
  | .nil => 1
  | .ptr d => uptoBulk d + 1
  | .slice elems spare => uptoBulkAll elems + uptoBulkAll spare + 1
  | .agg parts => uptoBulkAll parts + 1
  | .iface _ d => uptoBulk d + 1
  | .map entries => uptoBulkEntries entries + 1
  | .held _ => 1
def uptoBulkAll {H : Type} : List (DataW H) → Nat
  | [] => 0
  | d :: r => uptoBulk d + uptoBulkAll r
def uptoBulkEntries {H : Type} : List (Lit × DataW H) → Nat
  | [] => 0
  | x :: r => uptoBulkEntry x + uptoBulkEntries r
def uptoBulkEntry {H : Type} : Lit × DataW H → Nat
  | (.string bytes, d) => bytes.length + uptoBulk d + 1
  | (_, d) => uptoBulk d + 1
 end
def uptoSmall : (H : Type) → List (DataW H) → Bool := fun _ ds => decide (uptoBulkAll ds ≤ 1048576)
def OpenSpec.upto (s : _root_.Go.ChangeSpec) : _root_.Go.OpenSpec := { _root_.Go.OpenSpec.ofChange s with cond := some uptoSmall }

/-- 'cairnfieldkeep.WordMoves', WHERE WHAT IT READS IS OF BULK AT MOST 1048576: true; the input reads as it did. -/
def wordMovesUptoRow : OpenClaim := { program := "ytdanffkcgogalaa", sum := "91057d15b8b4628c1831092f27a5af8fcc28999c83ce40bcf276a223fa639680", func := "cairnfield/cairnfieldkeep.WordMoves", spec := "wordMoves", apart := false, narrowed := true }
def WordMovesUptoSaid : Prop := wordMovesUptoRow.holds Try.pinned (OpenSpec.upto wordMovesSpec)

/-- 'cairnfieldkeep.WordReads', WHERE WHAT IT READS IS OF BULK AT MOST 1048576: true; the input reads as it did. -/
def wordReadsUptoRow : OpenClaim := { program := "ytdanffkcgogalaa", sum := "91057d15b8b4628c1831092f27a5af8fcc28999c83ce40bcf276a223fa639680", func := "cairnfield/cairnfieldkeep.WordReads", spec := "wordReads", apart := false, narrowed := true }
def WordReadsUptoSaid : Prop := wordReadsUptoRow.holds Try.pinned (OpenSpec.upto wordReadsSpec)

/-- 'cairnfieldkeep.WalkTiles', WHERE WHAT IT READS IS OF BULK AT MOST 1048576: true; the input reads as it did. -/
def walkTilesUptoRow : OpenClaim := { program := "ytdanffkcgogalaa", sum := "91057d15b8b4628c1831092f27a5af8fcc28999c83ce40bcf276a223fa639680", func := "cairnfield/cairnfieldkeep.WalkTiles", spec := "walkTiles", apart := false, narrowed := true }
def WalkTilesUptoSaid : Prop := walkTilesUptoRow.holds Try.pinned (OpenSpec.upto walkTilesSpec)

/-- 'cairnfieldkeep.HeadBack', WHERE WHAT IT READS IS OF BULK AT MOST 1048576: true; the input reads as it did. -/
def headBackUptoRow : OpenClaim := { program := "ytdanffkcgogalaa", sum := "91057d15b8b4628c1831092f27a5af8fcc28999c83ce40bcf276a223fa639680", func := "cairnfield/cairnfieldkeep.HeadBack", spec := "headBack", unfollowed := true, recurses := true, apart := false, narrowed := true }
def HeadBackUptoSaid : Prop := headBackUptoRow.holds Try.pinned (OpenSpec.upto headBackSpec)

/-- 'cairnfieldkeep.WordBack', WHERE WHAT IT READS IS OF BULK AT MOST 1048576: true; the input reads as it did. -/
def wordBackUptoRow : OpenClaim := { program := "ytdanffkcgogalaa", sum := "91057d15b8b4628c1831092f27a5af8fcc28999c83ce40bcf276a223fa639680", func := "cairnfield/cairnfieldkeep.WordBack", spec := "wordBack", apart := false, narrowed := true }
def WordBackUptoSaid : Prop := wordBackUptoRow.holds Try.pinned (OpenSpec.upto wordBackSpec)

/-- 'cairnfieldkeep.WordApart', WHERE WHAT IT READS IS OF BULK AT MOST 1048576: true; the input reads as it did. -/
def wordApartUptoRow : OpenClaim := { program := "ytdanffkcgogalaa", sum := "91057d15b8b4628c1831092f27a5af8fcc28999c83ce40bcf276a223fa639680", func := "cairnfield/cairnfieldkeep.WordApart", spec := "wordApart", unfollowed := true, recurses := true, apart := false, narrowed := true }
def WordApartUptoSaid : Prop := wordApartUptoRow.holds Try.pinned (OpenSpec.upto wordApartSpec)

/-- 'cairnfieldkeep.HandOnce', WHERE WHAT IT READS IS OF BULK AT MOST 1048576: true; the input reads as it did. -/
def handOnceUptoRow : OpenClaim := { program := "ytdanffkcgogalaa", sum := "91057d15b8b4628c1831092f27a5af8fcc28999c83ce40bcf276a223fa639680", func := "cairnfield/cairnfieldkeep.HandOnce", spec := "handOnce", unfollowed := true, recurses := true, apart := false, narrowed := true }
def HandOnceUptoSaid : Prop := handOnceUptoRow.holds Try.pinned (OpenSpec.upto handOnceSpec)

/-- 'cairnfieldkeep.HandLooks', WHERE WHAT IT READS IS OF BULK AT MOST 1048576: true; the input reads as it did. -/
def handLooksUptoRow : OpenClaim := { program := "ytdanffkcgogalaa", sum := "91057d15b8b4628c1831092f27a5af8fcc28999c83ce40bcf276a223fa639680", func := "cairnfield/cairnfieldkeep.HandLooks", spec := "handLooks", unfollowed := true, recurses := true, apart := false, narrowed := true }
def HandLooksUptoSaid : Prop := handLooksUptoRow.holds Try.pinned (OpenSpec.upto handLooksSpec)

end Rows
end Go.Proofs.Ytdanffkcgogalaa
