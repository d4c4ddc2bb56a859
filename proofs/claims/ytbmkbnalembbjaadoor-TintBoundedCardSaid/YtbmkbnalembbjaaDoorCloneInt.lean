/-
  slices.Clone at []int.
-/
import Derived.Test.YtbmkbnalembbjaaDoorRows
import Derived.Test.YtbmkbnalembbjaaDoorBase
namespace Go.Proofs.YtbmkbnalembbjaaDoor
open Go.RowKit

theorem size_int : (Tryd.prog.info? 3).map (·.size) = some 1 := by kernel_rfl
theorem info_int : (Tryd.prog.info? 3).map (fun i => (i.zero, i.size, i.bytes)) = some (some (.int .i64 0), 1, 8) := by kernel_rfl

theorem ints_one (l : List Int) : ∀ u ∈ l.map (Value.int .i64), u.oneCell' = true := by
  intro u hu
  obtain ⟨x, _, rfl⟩ := List.mem_map.1 hu
  rfl
end Go.Proofs.YtbmkbnalembbjaaDoor
