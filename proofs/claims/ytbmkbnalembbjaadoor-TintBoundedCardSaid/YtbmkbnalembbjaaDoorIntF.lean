/-
  slices.IndexFunc, ContainsFunc at []int, whatever the test (a closure that captures one variable).
-/
import Derived.Test.YtbmkbnalembbjaaDoorRows
import Derived.Test.YtbmkbnalembbjaaDoorBase2
namespace Go.Proofs.YtbmkbnalembbjaaDoor
open Go.RowKit

end Go.Proofs.YtbmkbnalembbjaaDoor
