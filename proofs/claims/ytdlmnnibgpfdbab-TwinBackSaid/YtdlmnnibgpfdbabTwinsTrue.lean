/-
  The laws' closed fact 'twins': it answers true.
-/
import Derived.Test.YtdlmnnibgpfdbabTwinGapsFn
import Derived.Test.YtdlmnnibgpfdbabTwinLaw
namespace Go.Proofs.Ytdlmnnibgpfdbab
open Go.RowKit

set_option maxHeartbeats 400000 in
theorem twins_true (w : World) : Calls Try.prog 9 #[] w fun e w' => e = .returned (.bool true) ∧ Below w.heap.size w w' := by
  have H := Lib.hid (fun w => twinGaps_ok 3 none 0 0 [] w Reads.none_ (by decide) trivial)
  have hg : runsC (tgapsL [] 3 0) = [.int .i64 0, .int .i64 8] := rfl
  rw [hg] at H
  go_enter Try.func9, Try.ntmps9
  go_wp2_with fail
  refine (H.out _).mono ?_
  rintro e w1 ⟨A', q, c', rfl, hown, hb⟩
  obtain rfl : q = 1 := by have := hown.1; simp at this; omega
  obtain ⟨g, cap, hv, hg, -⟩ := hown.form (by decide)
  obtain ⟨rfl, rfl⟩ : A' = some ⟨g, 0, none⟩ ∧ c' = cap := by simpa using hv
  have hc := hown.cellAt 1 (by decide)
  simp at hc
  clear hown hv
  go_wp2
  go_ret
  exact ⟨rfl, hb⟩
end Go.Proofs.Ytdlmnnibgpfdbab
