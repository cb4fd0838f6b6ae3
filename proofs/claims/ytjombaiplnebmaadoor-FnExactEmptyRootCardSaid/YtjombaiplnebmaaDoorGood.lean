/- Plain words on lists whose elements are good and ascend. -/
import Derived.Test.YtjombaiplnebmaaDoorMem
open Go.RowKit
namespace Go.Proofs.YtjombaiplnebmaaDoor
/-- The k-th element is good, and above the one ahead of it. -/
def goodAt {α : Type} (ok : α → Bool) (lt : α → α → Bool) (xs : List α) : Nat → Bool
  | 0 => match xs[0]? with
    | some x => ok x
    | none => true
  | k + 1 => match xs[k + 1]?, xs[k]? with
    | some x, some y => ok x && lt y x
    | _, _ => true
def goodAll {α : Type} (ok : α → Bool) (lt : α → α → Bool) (m : Nat) (xs : List α) : Bool := decide (xs.length ≤ m) && (List.range xs.length).all (goodAt ok lt xs)
section
variable {α : Type} {ok : α → Bool} {lt : α → α → Bool} {xs : List α} {m k : Nat} {x y : α}
theorem goodAt_bad (h : xs[k]? = some x) (ho : ok x = false) : goodAt ok lt xs k = false := by
  cases k with
  | zero => rw [goodAt, h]; exact ho
  | succ k =>
    obtain ⟨hk, _⟩ := List.getElem?_eq_some_iff.1 h
    rw [goodAt, h, List.getElem?_eq_getElem (show k < xs.length by omega)]
    dsimp only
    rw [ho, Bool.false_and]
theorem goodAt_zero (h : xs[0]? = some x) (ho : ok x = true) : goodAt ok lt xs 0 = true := by rw [goodAt, h]; exact ho
theorem goodAt_succ (h : xs[k + 1]? = some x) (h' : xs[k]? = some y) (ho : ok x = true) : goodAt ok lt xs (k + 1) = lt y x := by
  rw [goodAt, h, h']
  dsimp only
  rw [ho, Bool.true_and]
theorem goodAll_long (h : m < xs.length) : goodAll ok lt m xs = false := by
  unfold goodAll
  rw [decide_eq_false (by omega), Bool.false_and]
theorem goodAll_bad (hk : k < xs.length) (h : goodAt ok lt xs k = false) : goodAll ok lt m xs = false := by
  unfold goodAll
  rw [all_bad (k := k) (x := k) (by rw [List.getElem?_range hk]) h, Bool.and_false]
theorem goodAll_ok (h : ∀ j, j < xs.length → goodAt ok lt xs j = true) : goodAll ok lt m xs = decide (xs.length ≤ m) := by
  unfold goodAll
  rw [List.all_eq_true.2 (fun j hj => h j (List.mem_range.1 hj)), Bool.and_true]
theorem goodAll_len (h : goodAll ok lt m xs = true) : xs.length ≤ m := by
  unfold goodAll at h
  rw [Bool.and_eq_true] at h
  exact of_decide_eq_true h.1
theorem goodAll_at (h : goodAll ok lt m xs = true) (hk : k < xs.length) : goodAt ok lt xs k = true := by
  unfold goodAll at h
  rw [Bool.and_eq_true, List.all_eq_true] at h
  exact h.2 k (List.mem_range.2 hk)
theorem goodAt_ok (h : goodAt ok lt xs k = true) (hx : xs[k]? = some x) : ok x = true := by
  cases ho : ok x
  · rw [goodAt_bad hx ho] at h; cases h
  · rfl
end
def pieceOk (x : Int × ByteArray) : Bool := textV (bts x.2) && (printP x.2 == x.1)
def pieceLt (y x : Int × ByteArray) : Bool := decide (y.1 < x.1)
def storeV (xs : List (Int × ByteArray)) : Bool := goodAll pieceOk pieceLt 40 xs
def ltB (a b : ByteArray) : Bool := Go.Op.bytesLess a.toList b.toList
def entryOk (x : ByteArray × Int) : Bool := wordV (bts x.1) && printB x.2
def entryLt (y x : ByteArray × Int) : Bool := ltB y.1 x.1
def entriesV (xs : List (ByteArray × Int)) : Bool := goodAll entryOk entryLt 3 xs
theorem bytesLess_total : ∀ a b : List UInt8, (Go.Op.bytesLess a b || a == b) = !Go.Op.bytesLess b a
  | [], [] => rfl
  | [], _ :: _ => rfl
  | _ :: _, [] => rfl
  | x :: a, y :: b => by
    have ih := bytesLess_total a b
    rw [Go.Op.bytesLess, Go.Op.bytesLess]
    rcases Nat.lt_trichotomy x.toNat y.toNat with h | h | h
    · have h1 : x < y := h
      have h2 : ¬ y < x := fun h3 => Nat.lt_asymm h h3
      have h3 : ¬ y = x := fun e => by rw [e] at h; exact Nat.lt_irrefl _ h
      simp [h1, h2, h3]
    · have h1 : x = y := UInt8.toNat_inj.1 h
      subst h1
      have h2 : ¬ x < x := Nat.lt_irrefl _
      simp only [h2, decide_false, Bool.false_or, beq_self_eq_true, Bool.true_and, ← ih]
      congr 1
      simp
    · have h1 : y < x := h
      have h2 : ¬ x < y := fun h3 => Nat.lt_asymm h h3
      have h3 : ¬ x = y := fun e => by rw [e] at h; exact Nat.lt_irrefl _ h
      simp [h1, h2, h3]
end Go.Proofs.YtjombaiplnebmaaDoor
