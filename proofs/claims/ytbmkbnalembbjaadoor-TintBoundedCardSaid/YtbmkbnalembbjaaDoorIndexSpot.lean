/-
  slices.IndexFunc over spots, whatever the test.
-/
import Derived.Test.YtbmkbnalembbjaaDoorSpots
import Derived.Test.YtbmkbnalembbjaaDoorBase2
namespace Go.Proofs.YtbmkbnalembbjaaDoor
open Go.RowKit

end Go.Proofs.YtbmkbnalembbjaaDoor
