/- Where a name is put, and what comes of it. -/
import Derived.Test.YthoiljgpggldcaaPutF
open Go.RowKit
namespace Go.Proofs.Ythoiljgpggldcaa
theorem toList_nee {x y : ByteArray} (h : ¬ x = y) : (x.toList == y.toList) = false := by
  rw [beq_eq_false_iff_ne]
  intro e
  rw [Lib.toList_data, Lib.toList_data] at e
  exact h (ByteArray.ext (Array.toList_inj.1 e))
/-- Where a name belongs, and whether it is there. -/
def enPos (t : ByteArray) (xs : List (ByteArray × Int)) : Nat := posOf (enBelow t) xs
def enHere (t : ByteArray) (xs : List (ByteArray × Int)) : Bool := match xs[enPos t xs]? with
  | some x => decide (x.1 = t)
  | none => false
def putL (xs : List (ByteArray × Int)) (t : ByteArray) (p : Int) : List (ByteArray × Int) :=
  xs.take (enPos t xs) ++ [(t, p)] ++ (if enHere t xs = true then xs.drop (enPos t xs + 1) else xs.drop (enPos t xs))
def putE (xs : List (ByteArray × Int)) (t : ByteArray) (p : Int) : List (ByteArray × Int) × Bool :=
  if entriesV xs = true then (if entriesV (putL xs t p) = true then (putL xs t p, true) else (xs, false)) else ([], false)
theorem own_block {w : World} {base n : Nat} {e : TypeId} {v : Value} {xs : List Value} (h : w.ownsRow base e 2 v n xs) (hn : 0 < n) : ∃ A c, v = .slice A n c ∧ v.ownBlock ≠ none := by
  rcases h.2 with ⟨_, h0⟩ | ⟨g, cap, _, rfl, _⟩
  · omega
  · exact ⟨_, _, rfl, fun e => by cases e⟩
end Go.Proofs.Ythoiljgpggldcaa
