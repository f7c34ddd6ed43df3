/- What layer 7's laws ask. -/
import Derived.Test.YtammdlgpelljmaaPlPlaceBackLib
namespace Go.Proofs.Ytammdlgpelljmaa.Pure
open Go.Proofs.Ytammdlgpelljmaa.PPl
theorem PlaceFinds : catamaranlaw07_PlaceFinds.Pure := PlPlaceLib.finds
theorem PlaceTells : catamaranlaw07_PlaceTells.Pure := PlPlaceLib.tells
theorem PlaceNames : catamaranlaw07_PlaceNames.Pure := PlPlaceLib.names
theorem PlaceOne : catamaranlaw07_PlaceOne.Pure := PlPlaceLib.placeOne
theorem PlaceBack : catamaranlaw07_PlaceBack.Pure := PlPlaceLib.placeBack
end Go.Proofs.Ytammdlgpelljmaa.Pure
