/- Contracts of the functions on lists of numbers. -/
import Derived.Test.YtjombaiplnebmaaDoorWords
import Derived.Test.YtjombaiplnebmaaDoorPlain
import Derived.Deep.RegionWith
open Go.RowKit
namespace Go.Proofs.YtjombaiplnebmaaDoor

theorem int_info : (Tryd.prog.info? 3).map (fun i => (i.zero, i.size, i.bytes)) = some (some (.int .i64 0), 1, 8) := by kernel_rfl



end Go.Proofs.YtjombaiplnebmaaDoor
