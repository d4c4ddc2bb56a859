/-
  slices.Equal, IndexFunc, ContainsFunc at runs.
-/
import Derived.Test.YtdlmnnibgpfdbabRows
import Derived.Test.YtdlmnnibgpfdbabGapDefs
import Derived.Test.YtdlmnnibgpfdbabBase2
namespace Go.Proofs.Ytdlmnnibgpfdbab
open Go.RowKit

set_option maxHeartbeats 400000 in
theorem equal_run (A A2 : Option Addr) (n c c2 B B2 : Nat) (l : List Rn) (w : World) (hr : Reads w B 2 A n (runsC l)) (hr2 : Reads w B2 2 A2 n (runsC l)) (hn : n ≤ 1000000000000000000) :
    Calls Try.prog 19 #[.slice A n c, .slice A2 n c2] w fun e w' => e = .returned (.bool true) ∧ ∃ q, w' = w.drewN q := by
  go_enter Try.func19, Try.ntmps19
  go_wp2
  go_loopw [13] (fun i wr => ∃ j : Nat, j ≤ n ∧ i = .int .i64 j ∧ ∃ q, wr = w.drewN q) (fun i _ => n - (intOf i).toNat)
  case atStart => exact ⟨0, Nat.zero_le _, rfl, 0, rfl⟩
  case round =>
    obtain ⟨j, hj, rfl, q, rfl⟩ := hrel
    by_cases hlt : j < n
    · obtain ⟨ad, r, rfl, _, hs, c0, c1⟩ := hr.run hlt
      obtain ⟨ad2, r2, rfl, _, hs2, d0, d1⟩ := hr2.run hlt
      obtain rfl : r = r2 := Option.some.inj (hs.symm.trans hs2)
      obtain ⟨x, y⟩ := r
      dsimp only at *
      have hlt' : (j : Int) < n := by omega
      clear hs hs2
      go_wp2
      go_quiet (fail)
      go_wp2
      go_roundw
      case rel => exact ⟨j + 1, by omega, by go_num, _, rfl⟩
      case measure => simp [intOf]; omega
    · go_wp2
      go_ret
      exact ⟨rfl, _, rfl⟩

end Go.Proofs.Ytdlmnnibgpfdbab
