/- Contract of the specification's PutEntry, of a row of the call's own. -/
import Derived.Test.YtjombaiplnebmaaGreatDoorPutE1
import Derived.Test.YtjombaiplnebmaaGreatDoorPutE2
import Derived.Test.YtjombaiplnebmaaGreatDoorPutE3
import Derived.Test.YtjombaiplnebmaaGreatDoorPutE4
import Derived.Test.YtjombaiplnebmaaGreatDoorPutE5
open Go.RowKit
namespace Go.Proofs.YtjombaiplnebmaaGreatDoor
end Go.Proofs.YtjombaiplnebmaaGreatDoor
