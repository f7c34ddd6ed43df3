/- What StateTells asks. -/
import Derived.Test.YtcnlgfoomeklbaaSlStateLibC
namespace Go.Proofs.Ytcnlgfoomeklbaa.Pure
open Go.Proofs.Ytcnlgfoomeklbaa.PSl
theorem StateTells : catamaranlaw19_StateTells.Pure := SlStateLib.tells
end Go.Proofs.Ytcnlgfoomeklbaa.Pure
