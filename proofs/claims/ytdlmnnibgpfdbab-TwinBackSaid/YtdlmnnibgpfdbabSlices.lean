/-
  Contract of slices.Equal at []uint64.
-/
import Derived.Test.YtdlmnnibgpfdbabRows
import Derived.Test.YtdlmnnibgpfdbabBase
import Derived.Test.YtdlmnnibgpfdbabBase2
namespace Go.Proofs.Ytdlmnnibgpfdbab
open Go.RowKit

end Go.Proofs.Ytdlmnnibgpfdbab
