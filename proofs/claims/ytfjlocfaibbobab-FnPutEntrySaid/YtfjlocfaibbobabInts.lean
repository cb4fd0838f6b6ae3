/- Contracts of the functions on lists of numbers. -/
import Derived.Test.YtfjlocfaibbobabWords
import Derived.Test.YtfjlocfaibbobabPlain
import Derived.Deep.RegionWith
open Go.RowKit
namespace Go.Proofs.Ytfjlocfaibbobab

theorem int_info : (Try.prog.info? 3).map (fun i => (i.zero, i.size, i.bytes)) = some (some (.int .i64 0), 1, 8) := by kernel_rfl



end Go.Proofs.Ytfjlocfaibbobab
