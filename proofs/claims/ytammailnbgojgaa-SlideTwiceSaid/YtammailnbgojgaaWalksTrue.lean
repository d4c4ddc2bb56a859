/-
  The laws' closed fact 'walks': it answers true.
-/
import Derived.Test.YtammailnbgojgaaSpots
namespace Go.Proofs.Ytammailnbgojgaa
open Go.RowKit

set_option maxHeartbeats 400000 in
theorem small_any (w : World) : Calls Try.prog 26 #[] w fun e w' => e = .returned (.slice (some ⟨w.heap.size, 0, none⟩) 2 2) ∧ w' = w.alloc (.cells #[.int .u64 1, .int .u64 1] 42) := by
  go_enter Try.func26, Try.ntmps26
  go_wp2
  go_ret
  exact ⟨rfl, rfl⟩

theorem small_reads (w : World) : Reads (w.alloc (.cells #[.int .u64 1, .int .u64 1] 42)) (w.alloc (.cells #[.int .u64 1, .int .u64 1] 42)).heap.size 1 (some ⟨w.heap.size, 0, none⟩) 2 ([1, 1].map (.int .u64)) := by
  have := reads_new w ([1, 1].map (.int .u64)) 42 2 1 rfl
  simpa using this
theorem small_wf : ∀ x ∈ ([1, 1] : List Int), (Lit.int .u64 x).wf = true := by decide
theorem small_spots : spotsE [1, 1] = 0 ∧ spotsL [1, 1] = [⟨0, 1, 0, 0, false⟩] := by decide

end Go.Proofs.Ytammailnbgojgaa
