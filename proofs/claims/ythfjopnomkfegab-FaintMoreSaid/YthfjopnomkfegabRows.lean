/-
  No cell of these rows narrows 'for every input' (looked for: loops, veiled, ifaces, maps, wideKeys, modest, calm, conditions, laid).
  DERIVED. THE GIVEN ROWS OF THIS SEAT. 6 by the template 'for every input the law returns true; each argument reads behind the call as it read before'; 0 by the template 'total and deterministic' (their statements: YthfjopnomkfegabTotals.lean).
  GIVEN WITH THE SEED: the statements are not yours to turn. If you find one false, say at which input.
  Laid BY PROGRAM, IN A SANDBOX (cutbox-rows.mjs): the forced cells as the released guide's own fill.sh prints them over the translation a5fc316690db5285… (all of the seat's roots in one cut). By AI agents, Wed Nov 11 2026. No macro, syntax, notation, axiom, sorry.
-/
import Derived.Test.YthfjopnomkfegabChecked
import GoSem.Claim
import GoSem.ClaimJoined
import GoSem.ClaimMapViews
import Derived.JoinedTies
import Derived.KernelRfl
namespace Go.Proofs.Ythfjopnomkfegab
/- THE CELL 'sum', in the pinned program and in every row, IS THE sha256 OF THE DUMP (.gsa) THAT YthfjopnomkfegabProg.lean LOADS. Nothing in Lean hashes anything: it is a label: what it is worth is what the hold of that sum in a sandbox is worth. -/
noncomputable def Try.pinned : Pinned := { name := "ythfjopnomkfegab", sum := "a5fc316690db5285ac25a84ddcc4bf645a01b0049675c10a17a940c6e32561c9", checked := Try.checked }
namespace Rows
def none {H : Type} : Left H := { results := [], args := [] }

/-- 'cairnfieldkeep.TintTwo': WHATEVER THE INPUT: true; the input reads as it did. -/
def tintTwoSpec : ChangeSpec := { name := "tintTwo", fn := fun _ => fun
  | [d1, d2, d3] => { results := [.lit (.bool true)], args := [d1, d2, d3] }
  | _ => none }
def tintTwoRow : OpenClaim := { program := "ythfjopnomkfegab", sum := "a5fc316690db5285ac25a84ddcc4bf645a01b0049675c10a17a940c6e32561c9", func := "cairnfield/cairnfieldkeep.TintTwo", spec := "tintTwo", unfollowed := true, recurses := true, apart := false }
def TintTwoSaid : Prop := tintTwoRow.holds Try.pinned (OpenSpec.ofChange tintTwoSpec)

/-- ITS FALSE NEIGHBOUR: 'it returns false'. Refute it at one input. -/
def tintTwoWrong : ChangeSpec := { name := "tintTwo", fn := fun _ => fun
  | [d1, d2, d3] => { results := [.lit (.bool false)], args := [d1, d2, d3] }
  | _ => none }
def TintTwoWrongFalsely : Prop := tintTwoRow.holds Try.pinned (OpenSpec.ofChange tintTwoWrong)

/-- 'cairnfieldkeep.TintLeast': WHATEVER THE INPUT: true; the input reads as it did. -/
def tintLeastSpec : ChangeSpec := { name := "tintLeast", fn := fun _ => fun
  | [d1, d2, d3] => { results := [.lit (.bool true)], args := [d1, d2, d3] }
  | _ => none }
def tintLeastRow : OpenClaim := { program := "ythfjopnomkfegab", sum := "a5fc316690db5285ac25a84ddcc4bf645a01b0049675c10a17a940c6e32561c9", func := "cairnfield/cairnfieldkeep.TintLeast", spec := "tintLeast", unfollowed := true, recurses := true, apart := false }
def TintLeastSaid : Prop := tintLeastRow.holds Try.pinned (OpenSpec.ofChange tintLeastSpec)

/-- ITS FALSE NEIGHBOUR: 'it returns false'. Refute it at one input. -/
def tintLeastWrong : ChangeSpec := { name := "tintLeast", fn := fun _ => fun
  | [d1, d2, d3] => { results := [.lit (.bool false)], args := [d1, d2, d3] }
  | _ => none }
def TintLeastWrongFalsely : Prop := tintLeastRow.holds Try.pinned (OpenSpec.ofChange tintLeastWrong)

/-- 'cairnfieldkeep.CarryOrder': WHATEVER THE INPUT: true; the input reads as it did. -/
def carryOrderSpec : ChangeSpec := { name := "carryOrder", fn := fun _ => fun
  | [d1, d2] => { results := [.lit (.bool true)], args := [d1, d2] }
  | _ => none }
def carryOrderRow : OpenClaim := { program := "ythfjopnomkfegab", sum := "a5fc316690db5285ac25a84ddcc4bf645a01b0049675c10a17a940c6e32561c9", func := "cairnfield/cairnfieldkeep.CarryOrder", spec := "carryOrder", unfollowed := true, recurses := true, apart := false }
def CarryOrderSaid : Prop := carryOrderRow.holds Try.pinned (OpenSpec.ofChange carryOrderSpec)

/-- ITS FALSE NEIGHBOUR: 'it returns false'. Refute it at one input. -/
def carryOrderWrong : ChangeSpec := { name := "carryOrder", fn := fun _ => fun
  | [d1, d2] => { results := [.lit (.bool false)], args := [d1, d2] }
  | _ => none }
def CarryOrderWrongFalsely : Prop := carryOrderRow.holds Try.pinned (OpenSpec.ofChange carryOrderWrong)

/-- 'cairnfieldkeep.TintClosed': WHATEVER THE INPUT: true; the input reads as it did. -/
def tintClosedSpec : ChangeSpec := { name := "tintClosed", fn := fun _ => fun
  | [d1, d2] => { results := [.lit (.bool true)], args := [d1, d2] }
  | _ => none }
def tintClosedRow : OpenClaim := { program := "ythfjopnomkfegab", sum := "a5fc316690db5285ac25a84ddcc4bf645a01b0049675c10a17a940c6e32561c9", func := "cairnfield/cairnfieldkeep.TintClosed", spec := "tintClosed", unfollowed := true, recurses := true, apart := false }
def TintClosedSaid : Prop := tintClosedRow.holds Try.pinned (OpenSpec.ofChange tintClosedSpec)

/-- ITS FALSE NEIGHBOUR: 'it returns false'. Refute it at one input. -/
def tintClosedWrong : ChangeSpec := { name := "tintClosed", fn := fun _ => fun
  | [d1, d2] => { results := [.lit (.bool false)], args := [d1, d2] }
  | _ => none }
def TintClosedWrongFalsely : Prop := tintClosedRow.holds Try.pinned (OpenSpec.ofChange tintClosedWrong)

/-- 'cairnfieldkeep.FaintLeast': WHATEVER THE INPUT: true; the input reads as it did. -/
def faintLeastSpec : ChangeSpec := { name := "faintLeast", fn := fun _ => fun
  | [d1, d2, d3, d4] => { results := [.lit (.bool true)], args := [d1, d2, d3, d4] }
  | _ => none }
def faintLeastRow : OpenClaim := { program := "ythfjopnomkfegab", sum := "a5fc316690db5285ac25a84ddcc4bf645a01b0049675c10a17a940c6e32561c9", func := "cairnfield/cairnfieldkeep.FaintLeast", spec := "faintLeast", unfollowed := true, recurses := true, apart := false }
def FaintLeastSaid : Prop := faintLeastRow.holds Try.pinned (OpenSpec.ofChange faintLeastSpec)

/-- ITS FALSE NEIGHBOUR: 'it returns false'. Refute it at one input. -/
def faintLeastWrong : ChangeSpec := { name := "faintLeast", fn := fun _ => fun
  | [d1, d2, d3, d4] => { results := [.lit (.bool false)], args := [d1, d2, d3, d4] }
  | _ => none }
def FaintLeastWrongFalsely : Prop := faintLeastRow.holds Try.pinned (OpenSpec.ofChange faintLeastWrong)

/-- 'cairnfieldkeep.FaintMore': WHATEVER THE INPUT: true; the input reads as it did. -/
def faintMoreSpec : ChangeSpec := { name := "faintMore", fn := fun _ => fun
  | [d1, d2, d3, d4] => { results := [.lit (.bool true)], args := [d1, d2, d3, d4] }
  | _ => none }
def faintMoreRow : OpenClaim := { program := "ythfjopnomkfegab", sum := "a5fc316690db5285ac25a84ddcc4bf645a01b0049675c10a17a940c6e32561c9", func := "cairnfield/cairnfieldkeep.FaintMore", spec := "faintMore", unfollowed := true, recurses := true, apart := false }
def FaintMoreSaid : Prop := faintMoreRow.holds Try.pinned (OpenSpec.ofChange faintMoreSpec)

/-- ITS FALSE NEIGHBOUR: 'it returns false'. Refute it at one input. -/
def faintMoreWrong : ChangeSpec := { name := "faintMore", fn := fun _ => fun
  | [d1, d2, d3, d4] => { results := [.lit (.bool false)], args := [d1, d2, d3, d4] }
  | _ => none }
def FaintMoreWrongFalsely : Prop := faintMoreRow.holds Try.pinned (OpenSpec.ofChange faintMoreWrong)

/- THE SECOND FORM. 'bulk': how many values and letters a reading holds, each counted each time it is reached (what is shared counts as often as it is met; a slice's spare places count too). A statement '..UptoSaid' is the law's where the arguments, and the package variables that the reading takes, are together of bulk at most 1048576: NARROWER than '..Said'. Prove '..Said' where nothing that the law and all that it calls make is longer than what came in: it says more and counts as full. Else prove '..UptoSaid'. A law counts once. -/
mutual
def uptoBulk {H : Type} : DataW H → Nat
  | .lit (.string bytes) => bytes.length + 1
  | .lit _ => 1
  | .nil => 1
  | .ptr d => uptoBulk d + 1
  | .slice elems spare => uptoBulkAll elems + uptoBulkAll spare + 1
  | .agg parts => uptoBulkAll parts + 1
  | .iface _ d => uptoBulk d + 1
  | .map entries => uptoBulkEntries entries + 1
  | .held _ => 1
def uptoBulkAll {H : Type} : List (DataW H) → Nat
  | [] => 0
  | d :: r => uptoBulk d + uptoBulkAll r
def uptoBulkEntries {H : Type} : List (Lit × DataW H) → Nat
  | [] => 0
  | x :: r => uptoBulkEntry x + uptoBulkEntries r
def uptoBulkEntry {H : Type} : Lit × DataW H → Nat
  | (.string bytes, d) => bytes.length + uptoBulk d + 1
  | (_, d) => uptoBulk d + 1
 end
def uptoSmall : (H : Type) → List (DataW H) → Bool := fun _ ds => decide (uptoBulkAll ds ≤ 1048576)
def OpenSpec.upto (s : _root_.Go.ChangeSpec) : _root_.Go.OpenSpec := { _root_.Go.OpenSpec.ofChange s with cond := some uptoSmall }

/-- 'cairnfieldkeep.TintTwo', WHERE WHAT IT READS IS OF BULK AT MOST 1048576: true; the input reads as it did. -/
def tintTwoUptoRow : OpenClaim := { program := "ythfjopnomkfegab", sum := "a5fc316690db5285ac25a84ddcc4bf645a01b0049675c10a17a940c6e32561c9", func := "cairnfield/cairnfieldkeep.TintTwo", spec := "tintTwo", unfollowed := true, recurses := true, apart := false, narrowed := true }
def TintTwoUptoSaid : Prop := tintTwoUptoRow.holds Try.pinned (OpenSpec.upto tintTwoSpec)

/-- 'cairnfieldkeep.TintLeast', WHERE WHAT IT READS IS OF BULK AT MOST 1048576: true; the input reads as it did. -/
def tintLeastUptoRow : OpenClaim := { program := "ythfjopnomkfegab", sum := "a5fc316690db5285ac25a84ddcc4bf645a01b0049675c10a17a940c6e32561c9", func := "cairnfield/cairnfieldkeep.TintLeast", spec := "tintLeast", unfollowed := true, recurses := true, apart := false, narrowed := true }
def TintLeastUptoSaid : Prop := tintLeastUptoRow.holds Try.pinned (OpenSpec.upto tintLeastSpec)

/-- 'cairnfieldkeep.CarryOrder', WHERE WHAT IT READS IS OF BULK AT MOST 1048576: true; the input reads as it did. -/
def carryOrderUptoRow : OpenClaim := { program := "ythfjopnomkfegab", sum := "a5fc316690db5285ac25a84ddcc4bf645a01b0049675c10a17a940c6e32561c9", func := "cairnfield/cairnfieldkeep.CarryOrder", spec := "carryOrder", unfollowed := true, recurses := true, apart := false, narrowed := true }
def CarryOrderUptoSaid : Prop := carryOrderUptoRow.holds Try.pinned (OpenSpec.upto carryOrderSpec)

/-- 'cairnfieldkeep.TintClosed', WHERE WHAT IT READS IS OF BULK AT MOST 1048576: true; the input reads as it did. -/
def tintClosedUptoRow : OpenClaim := { program := "ythfjopnomkfegab", sum := "a5fc316690db5285ac25a84ddcc4bf645a01b0049675c10a17a940c6e32561c9", func := "cairnfield/cairnfieldkeep.TintClosed", spec := "tintClosed", unfollowed := true, recurses := true, apart := false, narrowed := true }
def TintClosedUptoSaid : Prop := tintClosedUptoRow.holds Try.pinned (OpenSpec.upto tintClosedSpec)

/-- 'cairnfieldkeep.FaintLeast', WHERE WHAT IT READS IS OF BULK AT MOST 1048576: true; the input reads as it did. -/
def faintLeastUptoRow : OpenClaim := { program := "ythfjopnomkfegab", sum := "a5fc316690db5285ac25a84ddcc4bf645a01b0049675c10a17a940c6e32561c9", func := "cairnfield/cairnfieldkeep.FaintLeast", spec := "faintLeast", unfollowed := true, recurses := true, apart := false, narrowed := true }
def FaintLeastUptoSaid : Prop := faintLeastUptoRow.holds Try.pinned (OpenSpec.upto faintLeastSpec)

/-- 'cairnfieldkeep.FaintMore', WHERE WHAT IT READS IS OF BULK AT MOST 1048576: true; the input reads as it did. -/
def faintMoreUptoRow : OpenClaim := { program := "ythfjopnomkfegab", sum := "a5fc316690db5285ac25a84ddcc4bf645a01b0049675c10a17a940c6e32561c9", func := "cairnfield/cairnfieldkeep.FaintMore", spec := "faintMore", unfollowed := true, recurses := true, apart := false, narrowed := true }
def FaintMoreUptoSaid : Prop := faintMoreUptoRow.holds Try.pinned (OpenSpec.upto faintMoreSpec)

end Rows
end Go.Proofs.Ythfjopnomkfegab
