/-
  package gap: spots, long, gaps, Gaps.
-/
import Derived.Test.YtdlmnnibgpfdbabCheck
import Derived.Test.YtdlmnnibgpfdbabGapDefs
import Derived.Test.YtdlmnnibgpfdbabBase2
import Derived.Deep.RegionHeld3
import Derived.IntWalk
namespace Go.Proofs.Ytdlmnnibgpfdbab
open Go.RowKit

def gspotsL (a : List Int) : List Spot := if checkE a = 0 then spotsL a else []

theorem info_run : (Try.prog.info? 35).map (fun i => (i.zero, i.size, i.bytes)) = some (some (.agg #[.int .i64 0, .int .i64 0]), 2, 16) := by kernel_rfl

end Go.Proofs.Ytdlmnnibgpfdbab
