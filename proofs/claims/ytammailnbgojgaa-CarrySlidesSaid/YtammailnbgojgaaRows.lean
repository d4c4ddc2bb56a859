/-
  No cell of these rows narrows 'for every input' (looked for: loops, veiled, ifaces, maps, wideKeys, modest, calm, conditions, laid).
  DERIVED. THE GIVEN ROWS OF THIS SEAT. 6 by the template 'for every input the law returns true; each argument reads behind the call as it read before'; 0 by the template 'total and deterministic' (their statements: YtammailnbgojgaaTotals.lean).
  GIVEN WITH THE SEED: the statements are not yours to turn. If you find one false, say at which input.
  Laid BY PROGRAM, IN A SANDBOX (cutbox-rows.mjs): the forced cells as the released guide's own fill.sh prints them over the translation 6e7ecb8e986b66aa… (all of the seat's roots in one cut). By AI agents, Wed Nov 11 2026. No macro, syntax, notation, axiom, sorry.
-/
import Derived.Test.YtammailnbgojgaaChecked
import GoSem.Claim
import GoSem.ClaimJoined
import GoSem.ClaimMapViews
import Derived.JoinedTies
import Derived.KernelRfl
namespace Go.Proofs.Ytammailnbgojgaa
/- THE CELL 'sum', in the pinned program and in every row, IS THE sha256 OF THE DUMP (.gsa) THAT YtammailnbgojgaaProg.lean LOADS. Nothing in Lean hashes anything: it is a label: what it is worth is what the hold of that sum in a sandbox is worth. -/
noncomputable def Try.pinned : Pinned := { name := "ytammailnbgojgaa", sum := "6e7ecb8e986b66aaaae3628c92fc6a64afa1f67d6bed7d23e38e1d007d3feb13", checked := Try.checked }
namespace Rows
def none {H : Type} : Left H := { results := [], args := [] }

/-- 'cairnfieldkeep.SlideSame': WHATEVER THE INPUT: true; the input reads as it did. -/
def slideSameSpec : ChangeSpec := { name := "slideSame", fn := fun _ => fun
  | [d1, d2, d3] => { results := [.lit (.bool true)], args := [d1, d2, d3] }
  | _ => none }
def slideSameRow : OpenClaim := { program := "ytammailnbgojgaa", sum := "6e7ecb8e986b66aaaae3628c92fc6a64afa1f67d6bed7d23e38e1d007d3feb13", func := "cairnfield/cairnfieldkeep.SlideSame", spec := "slideSame", unfollowed := true, recurses := true, apart := false }
def SlideSameSaid : Prop := slideSameRow.holds Try.pinned (OpenSpec.ofChange slideSameSpec)

/-- ITS FALSE NEIGHBOUR: 'it returns false'. Refute it at one input. -/
def slideSameWrong : ChangeSpec := { name := "slideSame", fn := fun _ => fun
  | [d1, d2, d3] => { results := [.lit (.bool false)], args := [d1, d2, d3] }
  | _ => none }
def SlideSameWrongFalsely : Prop := slideSameRow.holds Try.pinned (OpenSpec.ofChange slideSameWrong)

/-- 'cairnfieldkeep.SlideFull': WHATEVER THE INPUT: true; the input reads as it did. -/
def slideFullSpec : ChangeSpec := { name := "slideFull", fn := fun _ => fun
  | [d1, d2, d3] => { results := [.lit (.bool true)], args := [d1, d2, d3] }
  | _ => none }
def slideFullRow : OpenClaim := { program := "ytammailnbgojgaa", sum := "6e7ecb8e986b66aaaae3628c92fc6a64afa1f67d6bed7d23e38e1d007d3feb13", func := "cairnfield/cairnfieldkeep.SlideFull", spec := "slideFull", unfollowed := true, recurses := true, apart := false }
def SlideFullSaid : Prop := slideFullRow.holds Try.pinned (OpenSpec.ofChange slideFullSpec)

/-- ITS FALSE NEIGHBOUR: 'it returns false'. Refute it at one input. -/
def slideFullWrong : ChangeSpec := { name := "slideFull", fn := fun _ => fun
  | [d1, d2, d3] => { results := [.lit (.bool false)], args := [d1, d2, d3] }
  | _ => none }
def SlideFullWrongFalsely : Prop := slideFullRow.holds Try.pinned (OpenSpec.ofChange slideFullWrong)

/-- 'cairnfieldkeep.SlideTwice': WHATEVER THE INPUT: true; the input reads as it did. -/
def slideTwiceSpec : ChangeSpec := { name := "slideTwice", fn := fun _ => fun
  | [d1, d2, d3] => { results := [.lit (.bool true)], args := [d1, d2, d3] }
  | _ => none }
def slideTwiceRow : OpenClaim := { program := "ytammailnbgojgaa", sum := "6e7ecb8e986b66aaaae3628c92fc6a64afa1f67d6bed7d23e38e1d007d3feb13", func := "cairnfield/cairnfieldkeep.SlideTwice", spec := "slideTwice", unfollowed := true, recurses := true, apart := false }
def SlideTwiceSaid : Prop := slideTwiceRow.holds Try.pinned (OpenSpec.ofChange slideTwiceSpec)

/-- ITS FALSE NEIGHBOUR: 'it returns false'. Refute it at one input. -/
def slideTwiceWrong : ChangeSpec := { name := "slideTwice", fn := fun _ => fun
  | [d1, d2, d3] => { results := [.lit (.bool false)], args := [d1, d2, d3] }
  | _ => none }
def SlideTwiceWrongFalsely : Prop := slideTwiceRow.holds Try.pinned (OpenSpec.ofChange slideTwiceWrong)

/-- 'cairnfieldkeep.CarrySame': WHATEVER THE INPUT: true; the input reads as it did. -/
def carrySameSpec : ChangeSpec := { name := "carrySame", fn := fun _ => fun
  | [d1, d2, d3] => { results := [.lit (.bool true)], args := [d1, d2, d3] }
  | _ => none }
def carrySameRow : OpenClaim := { program := "ytammailnbgojgaa", sum := "6e7ecb8e986b66aaaae3628c92fc6a64afa1f67d6bed7d23e38e1d007d3feb13", func := "cairnfield/cairnfieldkeep.CarrySame", spec := "carrySame", unfollowed := true, recurses := true, apart := false }
def CarrySameSaid : Prop := carrySameRow.holds Try.pinned (OpenSpec.ofChange carrySameSpec)

/-- ITS FALSE NEIGHBOUR: 'it returns false'. Refute it at one input. -/
def carrySameWrong : ChangeSpec := { name := "carrySame", fn := fun _ => fun
  | [d1, d2, d3] => { results := [.lit (.bool false)], args := [d1, d2, d3] }
  | _ => none }
def CarrySameWrongFalsely : Prop := carrySameRow.holds Try.pinned (OpenSpec.ofChange carrySameWrong)

/-- 'cairnfieldkeep.CarrySlides': WHATEVER THE INPUT: true; the input reads as it did. -/
def carrySlidesSpec : ChangeSpec := { name := "carrySlides", fn := fun _ => fun
  | [d1, d2] => { results := [.lit (.bool true)], args := [d1, d2] }
  | _ => none }
def carrySlidesRow : OpenClaim := { program := "ytammailnbgojgaa", sum := "6e7ecb8e986b66aaaae3628c92fc6a64afa1f67d6bed7d23e38e1d007d3feb13", func := "cairnfield/cairnfieldkeep.CarrySlides", spec := "carrySlides", unfollowed := true, recurses := true, apart := false }
def CarrySlidesSaid : Prop := carrySlidesRow.holds Try.pinned (OpenSpec.ofChange carrySlidesSpec)

/-- ITS FALSE NEIGHBOUR: 'it returns false'. Refute it at one input. -/
def carrySlidesWrong : ChangeSpec := { name := "carrySlides", fn := fun _ => fun
  | [d1, d2] => { results := [.lit (.bool false)], args := [d1, d2] }
  | _ => none }
def CarrySlidesWrongFalsely : Prop := carrySlidesRow.holds Try.pinned (OpenSpec.ofChange carrySlidesWrong)

/-- 'cairnfieldkeep.SlideOwn': WHATEVER THE INPUT: true; the input reads as it did. -/
def slideOwnSpec : ChangeSpec := { name := "slideOwn", fn := fun _ => fun
  | [d1, d2, d3] => { results := [.lit (.bool true)], args := [d1, d2, d3] }
  | _ => none }
def slideOwnRow : OpenClaim := { program := "ytammailnbgojgaa", sum := "6e7ecb8e986b66aaaae3628c92fc6a64afa1f67d6bed7d23e38e1d007d3feb13", func := "cairnfield/cairnfieldkeep.SlideOwn", spec := "slideOwn", unfollowed := true, recurses := true, apart := false }
def SlideOwnSaid : Prop := slideOwnRow.holds Try.pinned (OpenSpec.ofChange slideOwnSpec)

/-- ITS FALSE NEIGHBOUR: 'it returns false'. Refute it at one input. -/
def slideOwnWrong : ChangeSpec := { name := "slideOwn", fn := fun _ => fun
  | [d1, d2, d3] => { results := [.lit (.bool false)], args := [d1, d2, d3] }
  | _ => none }
def SlideOwnWrongFalsely : Prop := slideOwnRow.holds Try.pinned (OpenSpec.ofChange slideOwnWrong)

/- THE SECOND FORM. 'bulk': how many values and letters a reading holds, each counted each time it is reached (what is shared counts as often as it is met; a slice's spare places count too). A statement '..UptoSaid' is the law's where the arguments, and the package variables that the reading takes, are together of bulk at most 1048576: NARROWER than '..Said'. Prove '..Said' where nothing that the law and all that it calls make is longer than what came in: it says more and counts as full. Else prove '..UptoSaid'. A law counts once. -/
mutual
def uptoBulk {H : Type} : DataW H → Nat
  | .lit (.string bytes) => bytes.length + 1
  | .lit _ => 1
  | .nil => 1
  | .ptr d => uptoBulk d + 1
  | .slice elems spare => uptoBulkAll elems + uptoBulkAll spare + 1
  | .agg parts => uptoBulkAll parts + 1
  | .iface _ d => uptoBulk d + 1
  | .map entries => uptoBulkEntries entries + 1
  | .held _ => 1
def uptoBulkAll {H : Type} : List (DataW H) → Nat
  | [] => 0
  | d :: r => uptoBulk d + uptoBulkAll r
def uptoBulkEntries {H : Type} : List (Lit × DataW H) → Nat
  | [] => 0
  | x :: r => uptoBulkEntry x + uptoBulkEntries r
def uptoBulkEntry {H : Type} : Lit × DataW H → Nat
  | (.string bytes, d) => bytes.length + uptoBulk d + 1
  | (_, d) => uptoBulk d + 1
 end
def uptoSmall : (H : Type) → List (DataW H) → Bool := fun _ ds => decide (uptoBulkAll ds ≤ 1048576)
def OpenSpec.upto (s : _root_.Go.ChangeSpec) : _root_.Go.OpenSpec := { _root_.Go.OpenSpec.ofChange s with cond := some uptoSmall }

/-- 'cairnfieldkeep.SlideSame', WHERE WHAT IT READS IS OF BULK AT MOST 1048576: true; the input reads as it did. -/
def slideSameUptoRow : OpenClaim := { program := "ytammailnbgojgaa", sum := "6e7ecb8e986b66aaaae3628c92fc6a64afa1f67d6bed7d23e38e1d007d3feb13", func := "cairnfield/cairnfieldkeep.SlideSame", spec := "slideSame", unfollowed := true, recurses := true, apart := false, narrowed := true }
def SlideSameUptoSaid : Prop := slideSameUptoRow.holds Try.pinned (OpenSpec.upto slideSameSpec)

/-- 'cairnfieldkeep.SlideFull', WHERE WHAT IT READS IS OF BULK AT MOST 1048576: true; the input reads as it did. -/
def slideFullUptoRow : OpenClaim := { program := "ytammailnbgojgaa", sum := "6e7ecb8e986b66aaaae3628c92fc6a64afa1f67d6bed7d23e38e1d007d3feb13", func := "cairnfield/cairnfieldkeep.SlideFull", spec := "slideFull", unfollowed := true, recurses := true, apart := false, narrowed := true }
def SlideFullUptoSaid : Prop := slideFullUptoRow.holds Try.pinned (OpenSpec.upto slideFullSpec)

/-- 'cairnfieldkeep.SlideTwice', WHERE WHAT IT READS IS OF BULK AT MOST 1048576: true; the input reads as it did. -/
def slideTwiceUptoRow : OpenClaim := { program := "ytammailnbgojgaa", sum := "6e7ecb8e986b66aaaae3628c92fc6a64afa1f67d6bed7d23e38e1d007d3feb13", func := "cairnfield/cairnfieldkeep.SlideTwice", spec := "slideTwice", unfollowed := true, recurses := true, apart := false, narrowed := true }
def SlideTwiceUptoSaid : Prop := slideTwiceUptoRow.holds Try.pinned (OpenSpec.upto slideTwiceSpec)

/-- 'cairnfieldkeep.CarrySame', WHERE WHAT IT READS IS OF BULK AT MOST 1048576: true; the input reads as it did. -/
def carrySameUptoRow : OpenClaim := { program := "ytammailnbgojgaa", sum := "6e7ecb8e986b66aaaae3628c92fc6a64afa1f67d6bed7d23e38e1d007d3feb13", func := "cairnfield/cairnfieldkeep.CarrySame", spec := "carrySame", unfollowed := true, recurses := true, apart := false, narrowed := true }
def CarrySameUptoSaid : Prop := carrySameUptoRow.holds Try.pinned (OpenSpec.upto carrySameSpec)

/-- 'cairnfieldkeep.CarrySlides', WHERE WHAT IT READS IS OF BULK AT MOST 1048576: true; the input reads as it did. -/
def carrySlidesUptoRow : OpenClaim := { program := "ytammailnbgojgaa", sum := "6e7ecb8e986b66aaaae3628c92fc6a64afa1f67d6bed7d23e38e1d007d3feb13", func := "cairnfield/cairnfieldkeep.CarrySlides", spec := "carrySlides", unfollowed := true, recurses := true, apart := false, narrowed := true }
def CarrySlidesUptoSaid : Prop := carrySlidesUptoRow.holds Try.pinned (OpenSpec.upto carrySlidesSpec)

/-- 'cairnfieldkeep.SlideOwn', WHERE WHAT IT READS IS OF BULK AT MOST 1048576: true; the input reads as it did. -/
def slideOwnUptoRow : OpenClaim := { program := "ytammailnbgojgaa", sum := "6e7ecb8e986b66aaaae3628c92fc6a64afa1f67d6bed7d23e38e1d007d3feb13", func := "cairnfield/cairnfieldkeep.SlideOwn", spec := "slideOwn", unfollowed := true, recurses := true, apart := false, narrowed := true }
def SlideOwnUptoSaid : Prop := slideOwnUptoRow.holds Try.pinned (OpenSpec.upto slideOwnSpec)

end Rows
end Go.Proofs.Ytammailnbgojgaa
