/- What is drawn: the draws of texts and prints for the laws. -/
import Derived.Test.YtjombaiplnebmaaDoorDraw3
open Go.RowKit
namespace Go.Proofs.YtjombaiplnebmaaDoor
theorem below_rdr {w w1 w2 : World} {R : Nat} (hb : Below w.heap.size w w1) (hR : w.heap.size ≤ R) (hg : w1.grownBy w2 (some R)) : Below w.heap.size w w2 :=
  hb.grown hg hb.size (fun k e => by injection e with e; omega)
end Go.Proofs.YtjombaiplnebmaaDoor
