/- RingNames: closed. -/
import Derived.Test.YtnphfekbnbnilaaPRix5
namespace Go.Proofs.Ytnphfekbnbnilaa.Pure
open Go.Proofs.Ytnphfekbnbnilaa.PRi
set_option maxRecDepth 100000 in
theorem RingNames : catamaranlaw04_RingNames.Pure := by
  refine ⟨80, ?_⟩
  decide +kernel
end Go.Proofs.Ytnphfekbnbnilaa.Pure
