/- Contracts of the functions on lists of numbers. -/
import Derived.Test.YtfjlocfaibbobaaDoorWords
import Derived.Test.YtfjlocfaibbobaaDoorPlain
import Derived.Deep.RegionWith
open Go.RowKit
namespace Go.Proofs.YtfjlocfaibbobaaDoor

theorem int_info : (Tryd.prog.info? 3).map (fun i => (i.zero, i.size, i.bytes)) = some (some (.int .i64 0), 1, 8) := by kernel_rfl



end Go.Proofs.YtfjlocfaibbobaaDoor
