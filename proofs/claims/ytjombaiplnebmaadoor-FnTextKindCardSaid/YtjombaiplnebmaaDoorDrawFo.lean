/- What is drawn: entries for FolderText, a text for ReadFolder. -/
import Derived.Test.YtjombaiplnebmaaDoorDrawE
import Derived.Test.YtjombaiplnebmaaDoorFolder
open Go.RowKit
namespace Go.Proofs.YtjombaiplnebmaaDoor
end Go.Proofs.YtjombaiplnebmaaDoor
