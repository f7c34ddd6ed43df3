/- What StateTurns asks. -/
import Derived.Test.YtcnlgfoomeklbaaStateLib2
namespace Go.Proofs.Ytcnlgfoomeklbaa.Pure
open Go.Proofs.Ytcnlgfoomeklbaa.PSt
theorem StateTurns : catamaranlaw19_StateTurns.Pure := StateLib.turns
end Go.Proofs.Ytcnlgfoomeklbaa.Pure
