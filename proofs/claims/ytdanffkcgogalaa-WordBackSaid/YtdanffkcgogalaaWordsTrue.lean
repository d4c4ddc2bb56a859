/-
  The laws' closed fact 'words': it answers true.
-/
import Derived.Test.YtdanffkcgogalaaWord
namespace Go.Proofs.Ytdanffkcgogalaa
open Go.RowKit

set_option maxHeartbeats 400000 in
theorem words_true (w : World) : Calls Try.prog 11 #[] w fun e w' => e = .returned (.bool true) ∧ Below w.heap.size w w' := by
  have H := load_ok (some ⟨w.heap.size, 0, none⟩) 1 1 _ [5] 0 (w.alloc (.cells #[.int .u64 5] 27)) (reads_new w [.int .u64 5] 27 1 1 rfl) (by simp) (by decide)
  go_enter Try.func11, Try.ntmps11
  go_wp2_with (go_at_call 14; refine H.mono ?_; rintro e w' ⟨hb, rfl⟩)
  go_ret
  exact ⟨rfl, ((Below.refl _ _).alloc (Nat.le_refl _) _).trans (hb.mono (by simp))⟩

end Go.Proofs.Ytdanffkcgogalaa
