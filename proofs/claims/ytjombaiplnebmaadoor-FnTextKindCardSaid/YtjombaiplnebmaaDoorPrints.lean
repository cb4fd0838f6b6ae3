/- What is drawn: lists of prints, long texts, texts of files. -/
import Derived.Test.YtjombaiplnebmaaDoorDraw4
import Derived.Test.YtjombaiplnebmaaDoorAppend
import Derived.Test.YtjombaiplnebmaaDoorInts
open Go.RowKit
namespace Go.Proofs.YtjombaiplnebmaaDoor
/-- Behind an append to a row of the call's own: what was there has turned as before. -/
theorem grown_app {w W w' : World} {row vrow : Option Nat} (h : w.grownBy W row) (hg : W.grownBy w' vrow) (hv : ∀ k, vrow = some k → w.heap.size ≤ k) : w.grownBy w' row :=
  ⟨hg.os.trans h.os, hg.tape.trans h.tape, hg.output.trans h.output, Nat.le_trans h.size hg.size, fun i hi hne => (hg.block i (Nat.lt_of_lt_of_le hi h.size) (fun e => by have := hv i e.symm; omega)).trans (h.block i hi hne)⟩
theorem rdr_app {w w' : World} {R p base : Nat} {vrow : Option Nat} (h : Rdr w R p) (hg : w.grownBy w' vrow) (hR : R < base) (hv : ∀ k, vrow = some k → base ≤ k) : Rdr w' R p :=
  h.keep ⟨hg.os, hg.tape, hg.output, hg.size, fun k hk => hg.block k (by have := h.lt; omega) (fun e => by have := hv k e.symm; omega)⟩
theorem own_rdr {w w' : World} {R base n : Nat} {e : TypeId} {v : Value} {xs : List Value} (h : w.ownsRow base e 1 v n xs) (hg : w.grownBy w' (some R)) (hR : R < base) : w'.ownsRow base e 1 v n xs := by
  refine h.kept hg ?_
  cases hv : v.ownBlock with
  | none => exact .inl rfl
  | some k =>
    refine .inr fun e => ?_
    have := (h.lt k hv).1
    injection e with e
    omega
end Go.Proofs.YtjombaiplnebmaaDoor
