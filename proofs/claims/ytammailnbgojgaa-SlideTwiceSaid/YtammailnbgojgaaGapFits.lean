/-
  package gap: fits, First, Best.
-/
import Derived.Test.YtammailnbgojgaaRows
import Derived.Test.YtammailnbgojgaaGapDefs
import Derived.Test.YtammailnbgojgaaBase2
namespace Go.Proofs.Ytammailnbgojgaa
open Go.RowKit

theorem info_intG : (Try.prog.info? 3).map (fun i => (i.zero, i.size, i.bytes)) = some (some (.int .i64 0), 1, 8) := by kernel_rfl

def fitsL (l : List Rn) (n : Int) : List Int := if fitsE l n = 0 then fitIx n 0 l else []

end Go.Proofs.Ytammailnbgojgaa
