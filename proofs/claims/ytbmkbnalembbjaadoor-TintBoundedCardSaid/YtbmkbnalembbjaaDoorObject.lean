/-
  package walk: object.
-/
import Derived.Test.YtbmkbnalembbjaaDoorCheck
import Derived.Test.YtbmkbnalembbjaaDoorWord
import Derived.Test.YtbmkbnalembbjaaDoorBase2
namespace Go.Proofs.YtbmkbnalembbjaaDoor
open Go.RowKit

/-- The numbers of the objects that an object's references name. -/
def refIx (l : List Spot) (a : List Int) (s : Spot) : List Int := (refsOf a s).map fun v => (placeF l v).getD 0

theorem placeV_getD (l : List Spot) (v : Int) : (placeV l v).getD (.int .i64 0) = .int .i64 ((placeF l v).getD 0) := by
  unfold placeV
  cases placeF l v <;> rfl

end Go.Proofs.YtbmkbnalembbjaaDoor
