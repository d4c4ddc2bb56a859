/-
  No cell of these rows narrows 'for every input' (looked for: loops, veiled, ifaces, maps, wideKeys, modest, calm, conditions, laid).
  DERIVED. THE GIVEN ROWS OF THIS SEAT. 6 by the template 'for every input the law returns true; each argument reads behind the call as it read before'; 0 by the template 'total and deterministic' (their statements: YtammailnbgojgabTotals.lean).
  GIVEN WITH THE SEED: the statements are not yours to turn. If you find one false, say at which input.
  Laid BY PROGRAM, IN A SANDBOX (cutbox-rows.mjs): the forced cells as the released guide's own fill.sh prints them over the translation 4444ccd6b2f9be0c… (all of the seat's roots in one cut). By AI agents, Wed Nov 11 2026. No macro, syntax, notation, axiom, sorry.
-/
import Derived.Test.YtammailnbgojgabChecked
import GoSem.Claim
import GoSem.ClaimJoined
import GoSem.ClaimMapViews
import Derived.JoinedTies
import Derived.KernelRfl
namespace Go.Proofs.Ytammailnbgojgab
/- THE CELL 'sum', in the pinned program and in every row, IS THE sha256 OF THE DUMP (.gsa) THAT YtammailnbgojgabProg.lean LOADS. Nothing in Lean hashes anything: it is a label: what it is worth is what the hold of that sum in a sandbox is worth. -/
noncomputable def Try.pinned : Pinned := { name := "ytammailnbgojgab", sum := "4444ccd6b2f9be0c76218bc58456c8690936cc301031429dd6ab7d97ab3da59e", checked := Try.checked }
namespace Rows
def none {H : Type} : Left H := { results := [], args := [] }

/-- 'cairnfieldkeep.SameForms': WHATEVER THE INPUT: true; the input reads as it did. -/
def sameFormsSpec : ChangeSpec := { name := "sameForms", fn := fun _ => fun
  | [d1, d2, d3] => { results := [.lit (.bool true)], args := [d1, d2, d3] }
  | _ => none }
def sameFormsRow : OpenClaim := { program := "ytammailnbgojgab", sum := "4444ccd6b2f9be0c76218bc58456c8690936cc301031429dd6ab7d97ab3da59e", func := "cairnfield/cairnfieldkeep.SameForms", spec := "sameForms", unfollowed := true, recurses := true, apart := false }
def SameFormsSaid : Prop := sameFormsRow.holds Try.pinned (OpenSpec.ofChange sameFormsSpec)

/-- ITS FALSE NEIGHBOUR: 'it returns false'. Refute it at one input. -/
def sameFormsWrong : ChangeSpec := { name := "sameForms", fn := fun _ => fun
  | [d1, d2, d3] => { results := [.lit (.bool false)], args := [d1, d2, d3] }
  | _ => none }
def SameFormsWrongFalsely : Prop := sameFormsRow.holds Try.pinned (OpenSpec.ofChange sameFormsWrong)

/-- 'cairnfieldkeep.WalkBack': WHATEVER THE INPUT: true; the input reads as it did. -/
def walkBackSpec : ChangeSpec := { name := "walkBack", fn := fun _ => fun
  | [d1, d2, d3] => { results := [.lit (.bool true)], args := [d1, d2, d3] }
  | _ => none }
def walkBackRow : OpenClaim := { program := "ytammailnbgojgab", sum := "4444ccd6b2f9be0c76218bc58456c8690936cc301031429dd6ab7d97ab3da59e", func := "cairnfield/cairnfieldkeep.WalkBack", spec := "walkBack", unfollowed := true, recurses := true, apart := false }
def WalkBackSaid : Prop := walkBackRow.holds Try.pinned (OpenSpec.ofChange walkBackSpec)

/-- ITS FALSE NEIGHBOUR: 'it returns false'. Refute it at one input. -/
def walkBackWrong : ChangeSpec := { name := "walkBack", fn := fun _ => fun
  | [d1, d2, d3] => { results := [.lit (.bool false)], args := [d1, d2, d3] }
  | _ => none }
def WalkBackWrongFalsely : Prop := walkBackRow.holds Try.pinned (OpenSpec.ofChange walkBackWrong)

/-- 'cairnfieldkeep.WordOwn': WHATEVER THE INPUT: true; the input reads as it did. -/
def wordOwnSpec : ChangeSpec := { name := "wordOwn", fn := fun _ => fun
  | [d1, d2, d3, d4] => { results := [.lit (.bool true)], args := [d1, d2, d3, d4] }
  | _ => none }
def wordOwnRow : OpenClaim := { program := "ytammailnbgojgab", sum := "4444ccd6b2f9be0c76218bc58456c8690936cc301031429dd6ab7d97ab3da59e", func := "cairnfield/cairnfieldkeep.WordOwn", spec := "wordOwn", unfollowed := true, recurses := true, apart := false }
def WordOwnSaid : Prop := wordOwnRow.holds Try.pinned (OpenSpec.ofChange wordOwnSpec)

/-- ITS FALSE NEIGHBOUR: 'it returns false'. Refute it at one input. -/
def wordOwnWrong : ChangeSpec := { name := "wordOwn", fn := fun _ => fun
  | [d1, d2, d3, d4] => { results := [.lit (.bool false)], args := [d1, d2, d3, d4] }
  | _ => none }
def WordOwnWrongFalsely : Prop := wordOwnRow.holds Try.pinned (OpenSpec.ofChange wordOwnWrong)

/-- 'cairnfieldkeep.PinOwn': WHATEVER THE INPUT: true; the input reads as it did. -/
def pinOwnSpec : ChangeSpec := { name := "pinOwn", fn := fun _ => fun
  | [d1, d2, d3, d4] => { results := [.lit (.bool true)], args := [d1, d2, d3, d4] }
  | _ => none }
def pinOwnRow : OpenClaim := { program := "ytammailnbgojgab", sum := "4444ccd6b2f9be0c76218bc58456c8690936cc301031429dd6ab7d97ab3da59e", func := "cairnfield/cairnfieldkeep.PinOwn", spec := "pinOwn", inPlace := ["slices.overlaps[cairnfield/api.Pin]"], unfollowed := true, recurses := true, apart := false }
def PinOwnSaid : Prop := pinOwnRow.holds Try.pinned (OpenSpec.ofChange pinOwnSpec)

/-- ITS FALSE NEIGHBOUR: 'it returns false'. Refute it at one input. -/
def pinOwnWrong : ChangeSpec := { name := "pinOwn", fn := fun _ => fun
  | [d1, d2, d3, d4] => { results := [.lit (.bool false)], args := [d1, d2, d3, d4] }
  | _ => none }
def PinOwnWrongFalsely : Prop := pinOwnRow.holds Try.pinned (OpenSpec.ofChange pinOwnWrong)

/-- 'cairnfieldkeep.YoungOld': WHATEVER THE INPUT: true; the input reads as it did. -/
def youngOldSpec : ChangeSpec := { name := "youngOld", fn := fun _ => fun
  | [d1, d2] => { results := [.lit (.bool true)], args := [d1, d2] }
  | _ => none }
def youngOldRow : OpenClaim := { program := "ytammailnbgojgab", sum := "4444ccd6b2f9be0c76218bc58456c8690936cc301031429dd6ab7d97ab3da59e", func := "cairnfield/cairnfieldkeep.YoungOld", spec := "youngOld", unfollowed := true, recurses := true, apart := false }
def YoungOldSaid : Prop := youngOldRow.holds Try.pinned (OpenSpec.ofChange youngOldSpec)

/-- ITS FALSE NEIGHBOUR: 'it returns false'. Refute it at one input. -/
def youngOldWrong : ChangeSpec := { name := "youngOld", fn := fun _ => fun
  | [d1, d2] => { results := [.lit (.bool false)], args := [d1, d2] }
  | _ => none }
def YoungOldWrongFalsely : Prop := youngOldRow.holds Try.pinned (OpenSpec.ofChange youngOldWrong)

/-- 'cairnfieldkeep.YoungRight': WHATEVER THE INPUT: true; the input reads as it did. -/
def youngRightSpec : ChangeSpec := { name := "youngRight", fn := fun _ => fun
  | [d1, d2, d3] => { results := [.lit (.bool true)], args := [d1, d2, d3] }
  | _ => none }
def youngRightRow : OpenClaim := { program := "ytammailnbgojgab", sum := "4444ccd6b2f9be0c76218bc58456c8690936cc301031429dd6ab7d97ab3da59e", func := "cairnfield/cairnfieldkeep.YoungRight", spec := "youngRight", inPlace := ["slices.overlaps[int]"], unfollowed := true, recurses := true, apart := false }
def YoungRightSaid : Prop := youngRightRow.holds Try.pinned (OpenSpec.ofChange youngRightSpec)

/-- ITS FALSE NEIGHBOUR: 'it returns false'. Refute it at one input. -/
def youngRightWrong : ChangeSpec := { name := "youngRight", fn := fun _ => fun
  | [d1, d2, d3] => { results := [.lit (.bool false)], args := [d1, d2, d3] }
  | _ => none }
def YoungRightWrongFalsely : Prop := youngRightRow.holds Try.pinned (OpenSpec.ofChange youngRightWrong)

/- THE SECOND FORM. 'bulk': how many values and letters a reading holds, each counted each time it is reached (what is shared counts as often as it is met; a slice's spare places count too). A statement '..UptoSaid' is the law's where the arguments, and the package variables that the reading takes, are together of bulk at most 1048576: NARROWER than '..Said'. Prove '..Said' where nothing that the law and all that it calls make is longer than what came in: it says more and counts as full. Else prove '..UptoSaid'. A law counts once. -/
mutual
def uptoBulk {H : Type} : DataW H → Nat
  | .lit (.string bytes) => bytes.length + 1
  | .lit _ => 1
  | .nil => 1
  | .ptr d => uptoBulk d + 1
  | .slice elems spare => uptoBulkAll elems + uptoBulkAll spare + 1
  | .agg parts => uptoBulkAll parts + 1
  | .iface _ d => uptoBulk d + 1
  | .map entries => uptoBulkEntries entries + 1
  | .held _ => 1
def uptoBulkAll {H : Type} : List (DataW H) → Nat
  | [] => 0
  | d :: r => uptoBulk d + uptoBulkAll r
def uptoBulkEntries {H : Type} : List (Lit × DataW H) → Nat
  | [] => 0
  | x :: r => uptoBulkEntry x + uptoBulkEntries r
def uptoBulkEntry {H : Type} : Lit × DataW H → Nat
  | (.string bytes, d) => bytes.length + uptoBulk d + 1
  | (_, d) => uptoBulk d + 1
 end
def uptoSmall : (H : Type) → List (DataW H) → Bool := fun _ ds => decide (uptoBulkAll ds ≤ 1048576)
def OpenSpec.upto (s : _root_.Go.ChangeSpec) : _root_.Go.OpenSpec := { _root_.Go.OpenSpec.ofChange s with cond := some uptoSmall }

/-- 'cairnfieldkeep.SameForms', WHERE WHAT IT READS IS OF BULK AT MOST 1048576: true; the input reads as it did. -/
def sameFormsUptoRow : OpenClaim := { program := "ytammailnbgojgab", sum := "4444ccd6b2f9be0c76218bc58456c8690936cc301031429dd6ab7d97ab3da59e", func := "cairnfield/cairnfieldkeep.SameForms", spec := "sameForms", unfollowed := true, recurses := true, apart := false, narrowed := true }
def SameFormsUptoSaid : Prop := sameFormsUptoRow.holds Try.pinned (OpenSpec.upto sameFormsSpec)

/-- 'cairnfieldkeep.WalkBack', WHERE WHAT IT READS IS OF BULK AT MOST 1048576: true; the input reads as it did. -/
def walkBackUptoRow : OpenClaim := { program := "ytammailnbgojgab", sum := "4444ccd6b2f9be0c76218bc58456c8690936cc301031429dd6ab7d97ab3da59e", func := "cairnfield/cairnfieldkeep.WalkBack", spec := "walkBack", unfollowed := true, recurses := true, apart := false, narrowed := true }
def WalkBackUptoSaid : Prop := walkBackUptoRow.holds Try.pinned (OpenSpec.upto walkBackSpec)

/-- 'cairnfieldkeep.WordOwn', WHERE WHAT IT READS IS OF BULK AT MOST 1048576: true; the input reads as it did. -/
def wordOwnUptoRow : OpenClaim := { program := "ytammailnbgojgab", sum := "4444ccd6b2f9be0c76218bc58456c8690936cc301031429dd6ab7d97ab3da59e", func := "cairnfield/cairnfieldkeep.WordOwn", spec := "wordOwn", unfollowed := true, recurses := true, apart := false, narrowed := true }
def WordOwnUptoSaid : Prop := wordOwnUptoRow.holds Try.pinned (OpenSpec.upto wordOwnSpec)

/-- 'cairnfieldkeep.PinOwn', WHERE WHAT IT READS IS OF BULK AT MOST 1048576: true; the input reads as it did. -/
def pinOwnUptoRow : OpenClaim := { program := "ytammailnbgojgab", sum := "4444ccd6b2f9be0c76218bc58456c8690936cc301031429dd6ab7d97ab3da59e", func := "cairnfield/cairnfieldkeep.PinOwn", spec := "pinOwn", inPlace := ["slices.overlaps[cairnfield/api.Pin]"], unfollowed := true, recurses := true, apart := false, narrowed := true }
def PinOwnUptoSaid : Prop := pinOwnUptoRow.holds Try.pinned (OpenSpec.upto pinOwnSpec)

/-- 'cairnfieldkeep.YoungOld', WHERE WHAT IT READS IS OF BULK AT MOST 1048576: true; the input reads as it did. -/
def youngOldUptoRow : OpenClaim := { program := "ytammailnbgojgab", sum := "4444ccd6b2f9be0c76218bc58456c8690936cc301031429dd6ab7d97ab3da59e", func := "cairnfield/cairnfieldkeep.YoungOld", spec := "youngOld", unfollowed := true, recurses := true, apart := false, narrowed := true }
def YoungOldUptoSaid : Prop := youngOldUptoRow.holds Try.pinned (OpenSpec.upto youngOldSpec)

/-- 'cairnfieldkeep.YoungRight', WHERE WHAT IT READS IS OF BULK AT MOST 1048576: true; the input reads as it did. -/
def youngRightUptoRow : OpenClaim := { program := "ytammailnbgojgab", sum := "4444ccd6b2f9be0c76218bc58456c8690936cc301031429dd6ab7d97ab3da59e", func := "cairnfield/cairnfieldkeep.YoungRight", spec := "youngRight", inPlace := ["slices.overlaps[int]"], unfollowed := true, recurses := true, apart := false, narrowed := true }
def YoungRightUptoSaid : Prop := youngRightUptoRow.holds Try.pinned (OpenSpec.upto youngRightSpec)

end Rows
end Go.Proofs.Ytammailnbgojgab
