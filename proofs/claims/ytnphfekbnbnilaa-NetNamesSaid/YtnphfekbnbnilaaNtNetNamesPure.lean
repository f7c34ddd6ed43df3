/- NetNames: closed. -/
import Derived.Test.YtnphfekbnbnilaaPNtx2
namespace Go.Proofs.Ytnphfekbnbnilaa.Pure
open Go.Proofs.Ytnphfekbnbnilaa.PNt
set_option maxRecDepth 100000 in
theorem NetNames : catamaranlaw16_NetNames.Pure := by
  refine ⟨80, ?_⟩
  decide +kernel
end Go.Proofs.Ytnphfekbnbnilaa.Pure
