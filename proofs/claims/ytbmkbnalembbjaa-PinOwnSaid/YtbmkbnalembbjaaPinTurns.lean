/-
  PinTurns answers true for all pins and words, and changes no argument: pinning and unpinning restores the pins and does not affect other words.
-/
import Derived.Test.YtbmkbnalembbjaaPinDrop
import Derived.Test.YtbmkbnalembbjaaLawPins
import Derived.Test.YtbmkbnalembbjaaLaw
import Derived.Test.YtbmkbnalembbjaaLawNums
namespace Go.Proofs.Ytbmkbnalembbjaa
open Go.RowKit

theorem pins_facts : findE [] 4 = 0 ∧ countP [] 4 = 0 := by decide
theorem pins_more {i : Nat} (h : PlaceOf [] 4 i) : moreP [] 4 i 1 = [⟨4, 1⟩] := by
  have := h.le
  simp only [List.length_nil] at this
  have : i = 0 := by omega
  subst this
  decide

set_option maxHeartbeats 400000 in
theorem pins_true (w : World) : Calls Try.prog 13 #[] w fun e w' => e = .returned (.bool true) ∧ Below w.heap.size w w' := by
  have H := Lib.hid (padd_any none 0 0 [] 4 w Reads.none_ (by omega))
  go_enter Try.func13, Try.ntmps13
  go_wp2_with fail
  refine H.out.mono ?_
  rintro e w1 ⟨hb1, ⟨-, i, hi, -, -, A', c', rfl, -⟩ | ⟨hno, -⟩⟩
  · rw [pins_facts.2] at *
    have hm := pins_more hi
    rw [show (0 : Int) + 1 = 1 by omega, hm]
    clear hi hm
    go_wp2
    go_ret
    exact ⟨by first | rfl | simp, hb1⟩
  · exact absurd ⟨pins_facts.1, 0, ⟨Nat.le_refl _, fun k y h => by omega, fun k y _ h => by simp at h⟩, by rw [pins_facts.2]; decide, .inr (by decide)⟩ hno

namespace PinTurns
open Go.ChangeShapes Go.WideShapes Go.ChangeAt Go.RowKit
theorem own : ownKnob Try.prog.godebug = none := by kernel_rfl
theorem laidOut : laidOutB Try.prog = true := by kernel_rfl

end PinTurns
end Go.Proofs.Ytbmkbnalembbjaa
