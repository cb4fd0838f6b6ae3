/- The texts Ints Prints Own as one. -/
import Derived.Test.YtjombaiplnebmaaDoorWords
import Derived.Test.YtjombaiplnebmaaDoorPlain
import Derived.Deep.RegionWith
import Derived.Test.YtjombaiplnebmaaDoorMdr
import Derived.Test.YtjombaiplnebmaaDoorMap
import Derived.Test.YtjombaiplnebmaaDoorMem
/- Contracts of the functions on lists of numbers. -/
open Go.RowKit
namespace Go.Proofs.YtjombaiplnebmaaDoor

theorem int_info : (Tryd.prog.info? 3).map (fun i => (i.zero, i.size, i.bytes)) = some (some (.int .i64 0), 1, 8) := by kernel_rfl



end Go.Proofs.YtjombaiplnebmaaDoor
/- What is drawn: lists of prints, long texts, texts of files. -/
open Go.RowKit
namespace Go.Proofs.YtjombaiplnebmaaDoor
/-- Behind an append to a row of the call's own: what was there has turned as before. -/
theorem grown_app {w W w' : World} {row vrow : Option Nat} (h : w.grownBy W row) (hg : W.grownBy w' vrow) (hv : ∀ k, vrow = some k → w.heap.size ≤ k) : w.grownBy w' row :=
  ⟨hg.os.trans h.os, hg.tape.trans h.tape, hg.output.trans h.output, Nat.le_trans h.size hg.size, fun i hi hne => (hg.block i (Nat.lt_of_lt_of_le hi h.size) (fun e => by have := hv i e.symm; omega)).trans (h.block i hi hne)⟩
theorem rdr_app {w w' : World} {R p base : Nat} {vrow : Option Nat} (h : Rdr w R p) (hg : w.grownBy w' vrow) (hR : R < base) (hv : ∀ k, vrow = some k → base ≤ k) : Rdr w' R p :=
  h.keep ⟨hg.os, hg.tape, hg.output, hg.size, fun k hk => hg.block k (by have := h.lt; omega) (fun e => by have := hv k e.symm; omega)⟩
theorem own_rdr {w w' : World} {R base n : Nat} {e : TypeId} {v : Value} {xs : List Value} (h : w.ownsRow base e 1 v n xs) (hg : w.grownBy w' (some R)) (hR : R < base) : w'.ownsRow base e 1 v n xs := by
  refine h.kept hg ?_
  cases hv : v.ownBlock with
  | none => exact .inl rfl
  | some k =>
    refine .inr fun e => ?_
    have := (h.lt k hv).1
    injection e with e
    omega
end Go.Proofs.YtjombaiplnebmaaDoor
/- Rows that the call owns do not meet. Plain facts. -/
open Go.RowKit
namespace Go.Proofs.YtjombaiplnebmaaDoor
theorem own_ne {w w' : World} {base base' : Nat} {e e' : TypeId} {s s' n n' : Nat} {v v' : Value} {xs xs' : List Value} (h : w.ownsRow base e s v n xs) (h' : w'.ownsRow base' e' s' v' n' xs') (hle : w.heap.size ≤ base') : v.ownBlock = none ∨ v.ownBlock ≠ v'.ownBlock := by
  cases hv : v.ownBlock with
  | none => exact .inl rfl
  | some k =>
    refine .inr fun e => ?_
    have h1 := (h.lt k hv).2
    have h2 := (h'.lt k e.symm).1
    omega
theorem own_ne_symm {v v' : Value} (h : v.ownBlock = none ∨ v.ownBlock ≠ v'.ownBlock) : v'.ownBlock = none ∨ v'.ownBlock ≠ v.ownBlock := by
  cases hv : v'.ownBlock with
  | none => exact .inl rfl
  | some k =>
    refine .inr fun e => ?_
    rcases h with h | h
    · rw [h] at e; cases e
    · exact h (by rw [hv, e])
end Go.Proofs.YtjombaiplnebmaaDoor
