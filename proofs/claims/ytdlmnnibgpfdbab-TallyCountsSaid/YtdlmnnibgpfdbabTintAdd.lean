/-
  package tint: Reach's closure: a word is added to what is found.
-/
import Derived.Test.YtdlmnnibgpfdbabTintHeap
namespace Go.Proofs.Ytdlmnnibgpfdbab
open Go.RowKit

def seenF (out : List Int) : Int → Option Value := fun x => if x ∈ out then some (.bool true) else none
theorem seenF_snoc (out : List Int) (x : Int) : seenF (out ++ [x]) = upd (seenF out) x (.bool true) := by
  funext y
  unfold seenF upd
  by_cases h : y = x
  · subst h; simp
  · simp [h]

theorem zero_bool (w : World) : (zeroValue 4).run Try.prog w = .ok (.bool false) w := by kernel_rfl

end Go.Proofs.Ytdlmnnibgpfdbab
