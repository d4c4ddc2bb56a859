/-
  The laws' closed fact 'walks': it answers true.
-/
import Derived.Test.YtdlmnnibgpfdbaaSpots
namespace Go.Proofs.Ytdlmnnibgpfdbaa
open Go.RowKit

set_option maxHeartbeats 400000 in
theorem small_any (w : World) : Calls Try.prog 45 #[] w fun e w' => e = .returned (.slice (some ⟨w.heap.size, 0, none⟩) 2 2) ∧ w' = w.alloc (.cells #[.int .u64 1, .int .u64 1] 29) := by
  go_enter Try.func45, Try.ntmps45
  go_wp2
  go_ret
  exact ⟨rfl, rfl⟩

theorem small_reads (w : World) : Reads (w.alloc (.cells #[.int .u64 1, .int .u64 1] 29)) (w.alloc (.cells #[.int .u64 1, .int .u64 1] 29)).heap.size 1 (some ⟨w.heap.size, 0, none⟩) 2 ([1, 1].map (.int .u64)) := by
  have := reads_new w ([1, 1].map (.int .u64)) 29 2 1 rfl
  simpa using this
theorem small_wf : ∀ x ∈ ([1, 1] : List Int), (Lit.int .u64 x).wf = true := by decide
theorem small_spots : spotsE [1, 1] = 0 ∧ spotsL [1, 1] = [⟨0, 1, 0, 0, false⟩] := by decide

set_option maxHeartbeats 400000 in
theorem walks_true (w : World) : Calls Try.prog 13 #[] w fun e w' => e = .returned (.bool true) ∧ Below w.heap.size w w' := by
  have H := Lib.hid (spots_any _ 2 2 [1, 1] _ (small_reads w) small_wf)
  go_enter Try.func13, Try.ntmps13
  go_wp2_with (go_at_call 45; refine (small_any _).mono ?_; rintro e w1 ⟨rfl, rfl⟩)
  go_wp2_with fail
  refine H.out.mono ?_
  rw [small_spots.1, small_spots.2]
  rintro e w2 ⟨hb, A', c', rfl, hown⟩
  obtain ⟨g, cap, hv, hg, -⟩ := hown.form (by decide)
  obtain ⟨rfl, rfl⟩ : A' = some ⟨g, 0, none⟩ ∧ c' = cap := by simpa using hv
  have hc := hown.cellAt 1 (by decide)
  simp [spotsC, spotC] at hc
  clear hown hv
  go_wp2
  go_ret
  exact ⟨rfl, (below_new _ _).trans (hb.mono (by simp))⟩
end Go.Proofs.Ytdlmnnibgpfdbaa
