/- Contract of the specification's PutEntry, one case. -/
import Derived.Test.YtjombaiplnebmaaGreatDoorEntryV
import Derived.Test.YtjombaiplnebmaaGreatDoorMfi
import Derived.Test.YtjombaiplnebmaaGreatDoorPutD
open Go.RowKit
namespace Go.Proofs.YtjombaiplnebmaaGreatDoor
end Go.Proofs.YtjombaiplnebmaaGreatDoor
