/-
  No cell of these rows narrows 'for every input' (looked for: loops, veiled, ifaces, maps, wideKeys, modest, calm, conditions, laid).
  DERIVED. THE GIVEN ROWS OF THIS SEAT. 3 by the template 'for every input the law returns true; each argument reads behind the call as it read before'; 0 by the template 'total and deterministic' (their statements: YtjdpcmmmdaffdaaGreatTotals.lean).
  GIVEN WITH THE SEED: the statements are not yours to turn. If you find one false, say at which input.
  Laid BY PROGRAM, IN A SANDBOX (cutbox-rows.mjs): the forced cells as the released guide's own fill.sh prints them over the translation 4967d779b82d1410… (all of the seat's roots in one cut). By AI agents, Wed Nov 11 2026. No macro, syntax, notation, axiom, sorry.
-/
import Derived.Test.YtjdpcmmmdaffdaaGreatChecked
import GoSem.Claim
import GoSem.ClaimJoined
import GoSem.ClaimMapViews
import Derived.JoinedTies
import Derived.KernelRfl
namespace Go.Proofs.YtjdpcmmmdaffdaaGreat
/- THE CELL 'sum', in the pinned program and in every row, IS THE sha256 OF THE DUMP (.gsa) THAT YtjdpcmmmdaffdaaGreatProg.lean LOADS. Nothing in Lean hashes anything: it is a label: what it is worth is what the hold of that sum in a sandbox is worth. -/
noncomputable def Tryz.pinned : Pinned := { name := "ytjdpcmmmdaffdaagreat", sum := "4967d779b82d141039ae0c6b3e7cf8031b85d7b4de8f5cb4fe7b7813b1c318a5", checked := Tryz.checked }
namespace Rows
def none {H : Type} : Left H := { results := [], args := [] }

/-- 'cairnfieldkeep.StoreSure': WHATEVER THE INPUT: true; the input reads as it did. -/
def storeSureSpec : ChangeSpec := { name := "storeSure", fn := fun _ => fun
  | [d1, d2, d3] => { results := [.lit (.bool true)], args := [d1, d2, d3] }
  | _ => none }
def storeSureRow : OpenClaim := { program := "ytjdpcmmmdaffdaagreat", sum := "4967d779b82d141039ae0c6b3e7cf8031b85d7b4de8f5cb4fe7b7813b1c318a5", func := "cairnfield/cairnfieldkeep.StoreSure", spec := "storeSure", unfollowed := true, recurses := true, apart := false }
def StoreSureSaid : Prop := storeSureRow.holds Tryz.pinned (OpenSpec.ofChange storeSureSpec)

/-- ITS FALSE NEIGHBOUR: 'it returns false'. Refute it at one input. -/
def storeSureWrong : ChangeSpec := { name := "storeSure", fn := fun _ => fun
  | [d1, d2, d3] => { results := [.lit (.bool false)], args := [d1, d2, d3] }
  | _ => none }
def StoreSureWrongFalsely : Prop := storeSureRow.holds Tryz.pinned (OpenSpec.ofChange storeSureWrong)

/-- 'cairnfieldkeep.StorePins': WHATEVER THE INPUT: true; the input reads as it did. -/
def storePinsSpec : ChangeSpec := { name := "storePins", fn := fun _ => fun
  | [d1, d2, d3] => { results := [.lit (.bool true)], args := [d1, d2, d3] }
  | _ => none }
def storePinsRow : OpenClaim := { program := "ytjdpcmmmdaffdaagreat", sum := "4967d779b82d141039ae0c6b3e7cf8031b85d7b4de8f5cb4fe7b7813b1c318a5", func := "cairnfield/cairnfieldkeep.StorePins", spec := "storePins", inPlace := ["slices.overlaps[cairnfield/api.Pin]"], unfollowed := true, recurses := true, apart := false }
def StorePinsSaid : Prop := storePinsRow.holds Tryz.pinned (OpenSpec.ofChange storePinsSpec)

/-- ITS FALSE NEIGHBOUR: 'it returns false'. Refute it at one input. -/
def storePinsWrong : ChangeSpec := { name := "storePins", fn := fun _ => fun
  | [d1, d2, d3] => { results := [.lit (.bool false)], args := [d1, d2, d3] }
  | _ => none }
def StorePinsWrongFalsely : Prop := storePinsRow.holds Tryz.pinned (OpenSpec.ofChange storePinsWrong)

/-- 'cairnfieldkeep.StoreFresh': WHATEVER THE INPUT: true; the input reads as it did. -/
def storeFreshSpec : ChangeSpec := { name := "storeFresh", fn := fun _ => fun
  | [d1, d2, d3] => { results := [.lit (.bool true)], args := [d1, d2, d3] }
  | _ => none }
def storeFreshRow : OpenClaim := { program := "ytjdpcmmmdaffdaagreat", sum := "4967d779b82d141039ae0c6b3e7cf8031b85d7b4de8f5cb4fe7b7813b1c318a5", func := "cairnfield/cairnfieldkeep.StoreFresh", spec := "storeFresh", unfollowed := true, recurses := true, apart := false }
def StoreFreshSaid : Prop := storeFreshRow.holds Tryz.pinned (OpenSpec.ofChange storeFreshSpec)

/-- ITS FALSE NEIGHBOUR: 'it returns false'. Refute it at one input. -/
def storeFreshWrong : ChangeSpec := { name := "storeFresh", fn := fun _ => fun
  | [d1, d2, d3] => { results := [.lit (.bool false)], args := [d1, d2, d3] }
  | _ => none }
def StoreFreshWrongFalsely : Prop := storeFreshRow.holds Tryz.pinned (OpenSpec.ofChange storeFreshWrong)

/- THE SECOND FORM. 'bulk': how many values and letters a reading holds, each counted each time it is reached (what is shared counts as often as it is met; a slice's spare places count too). A statement '..UptoSaid' is the law's where the arguments, and the package variables that the reading takes, are together of bulk at most 1048576: NARROWER than '..Said'. Prove '..Said' where nothing that the law and all that it calls make is longer than what came in: it says more and counts as full. Else prove '..UptoSaid'. A law counts once. -/
mutual
def uptoBulk {H : Type} : DataW H → Nat
  | .lit (.string bytes) => bytes.length + 1
  | .lit _ => 1
  | .nil => 1
  | .ptr d => uptoBulk d + 1
  | .slice elems spare => uptoBulkAll elems + uptoBulkAll spare + 1
  | .agg parts => uptoBulkAll parts + 1
  | .iface _ d => uptoBulk d + 1
  | .map entries => uptoBulkEntries entries + 1
  | .held _ => 1
def uptoBulkAll {H : Type} : List (DataW H) → Nat
  | [] => 0
  | d :: r => uptoBulk d + uptoBulkAll r
def uptoBulkEntries {H : Type} : List (Lit × DataW H) → Nat
  | [] => 0
  | x :: r => uptoBulkEntry x + uptoBulkEntries r
def uptoBulkEntry {H : Type} : Lit × DataW H → Nat
  | (.string bytes, d) => bytes.length + uptoBulk d + 1
  | (_, d) => uptoBulk d + 1
 end
def uptoSmall : (H : Type) → List (DataW H) → Bool := fun _ ds => decide (uptoBulkAll ds ≤ 1048576)
def OpenSpec.upto (s : _root_.Go.ChangeSpec) : _root_.Go.OpenSpec := { _root_.Go.OpenSpec.ofChange s with cond := some uptoSmall }

/-- 'cairnfieldkeep.StoreSure', WHERE WHAT IT READS IS OF BULK AT MOST 1048576: true; the input reads as it did. -/
def storeSureUptoRow : OpenClaim := { program := "ytjdpcmmmdaffdaagreat", sum := "4967d779b82d141039ae0c6b3e7cf8031b85d7b4de8f5cb4fe7b7813b1c318a5", func := "cairnfield/cairnfieldkeep.StoreSure", spec := "storeSure", unfollowed := true, recurses := true, apart := false, narrowed := true }
def StoreSureUptoSaid : Prop := storeSureUptoRow.holds Tryz.pinned (OpenSpec.upto storeSureSpec)

/-- 'cairnfieldkeep.StorePins', WHERE WHAT IT READS IS OF BULK AT MOST 1048576: true; the input reads as it did. -/
def storePinsUptoRow : OpenClaim := { program := "ytjdpcmmmdaffdaagreat", sum := "4967d779b82d141039ae0c6b3e7cf8031b85d7b4de8f5cb4fe7b7813b1c318a5", func := "cairnfield/cairnfieldkeep.StorePins", spec := "storePins", inPlace := ["slices.overlaps[cairnfield/api.Pin]"], unfollowed := true, recurses := true, apart := false, narrowed := true }
def StorePinsUptoSaid : Prop := storePinsUptoRow.holds Tryz.pinned (OpenSpec.upto storePinsSpec)

/-- 'cairnfieldkeep.StoreFresh', WHERE WHAT IT READS IS OF BULK AT MOST 1048576: true; the input reads as it did. -/
def storeFreshUptoRow : OpenClaim := { program := "ytjdpcmmmdaffdaagreat", sum := "4967d779b82d141039ae0c6b3e7cf8031b85d7b4de8f5cb4fe7b7813b1c318a5", func := "cairnfield/cairnfieldkeep.StoreFresh", spec := "storeFresh", unfollowed := true, recurses := true, apart := false, narrowed := true }
def StoreFreshUptoSaid : Prop := storeFreshUptoRow.holds Tryz.pinned (OpenSpec.upto storeFreshSpec)

end Rows
end Go.Proofs.YtjdpcmmmdaffdaaGreat
