/- Plain words on proofs in trees. -/
import Derived.Test.YtgnliaekngbmbaaPlain
open Go.RowKit
namespace Go.Proofs.Ytgnliaekngbmbaa
def otherOf (m : Nat) : Nat := if m % 2 = 0 then m + 1 else m - 1
theorem xor_one : ∀ m : Nat, m < 32 → bits .xor .i64 (m : Int) 1 = (otherOf m : Int) := by decide +kernel
def proofF : Nat → List Int → Nat → List Int
  | 0, _, _ => []
  | f + 1, xs, m => if xs.length ≤ 1 then [] else xs[otherOf m]?.getD (-1) :: proofF f (levelUp xs) (m / 2)
theorem proofF_more : ∀ (f g : Nat) (xs : List Int) (m : Nat), xs.length ≤ f + 1 → xs.length ≤ g + 1 → proofF f xs m = proofF g xs m
  | 0, 0, _, _, _, _ => rfl
  | 0, g + 1, xs, m, h, _ => by simp only [proofF]; rw [if_pos (by omega)]
  | f + 1, 0, xs, m, _, h => by simp only [proofF]; rw [if_pos (by omega)]
  | f + 1, g + 1, xs, m, hf, hg => by
    simp only [proofF]
    split
    · rfl
    · have := levelUp_length xs
      rw [proofF_more f g _ _ (by omega) (by omega)]
def proofOf (xs : List Int) (m : Nat) : List Int := proofF xs.length xs m
theorem proofOf_short {xs : List Int} (m : Nat) (h : xs.length ≤ 1) : proofOf xs m = [] := by
  unfold proofOf
  cases hl : xs.length with
  | zero => rfl
  | succ n => simp only [proofF]; rw [if_pos (by omega)]
theorem proofOf_up {xs : List Int} (m : Nat) (h : 2 ≤ xs.length) : proofOf xs m = xs[otherOf m]?.getD (-1) :: proofOf (levelUp xs) (m / 2) := by
  unfold proofOf
  have hl := levelUp_length xs
  obtain ⟨n, hn⟩ : ∃ n, xs.length = n + 1 := ⟨xs.length - 1, by omega⟩
  rw [hn]
  simp only [proofF]
  rw [if_neg (by omega), proofF_more _ (levelUp xs).length _ _ (by omega) (by omega)]
/-- What proves the print n of a list. -/
def treeP (xs : List Int) (n : Int) : List Int := if leavesV xs = true ∧ 0 ≤ n ∧ n < xs.length then proofOf xs n.toNat else []
theorem treeP_yes {xs : List Int} {m : Nat} (h : leavesV xs = true) (hm : m < xs.length) : treeP xs m = proofOf xs m := by
  unfold treeP
  rw [if_pos ⟨h, by omega, by omega⟩]
  rfl
theorem treeP_no {xs : List Int} {n : Int} (h : ¬ (leavesV xs = true ∧ 0 ≤ n ∧ n < xs.length)) : treeP xs n = [] := if_neg h
theorem leavesV_len {xs : List Int} (h : leavesV xs = true) : 1 ≤ xs.length ∧ xs.length ≤ 16 := by
  unfold leavesV at h
  rw [Bool.and_eq_true] at h
  exact of_decide_eq_true h.1
theorem leavesV_all {xs : List Int} (h : leavesV xs = true) : xs.all printB = true := by
  unfold leavesV at h
  rw [Bool.and_eq_true] at h
  exact h.2
theorem snoc_cons {α : Type} (acc : List α) (x : α) (r : List α) : (acc ++ [x]) ++ r = acc ++ (x :: r) := by simp
/-- The print at the top to which a proof leads. -/
def prF (p : Int) (m q : Nat) : List Int → Int
  | [] => if 1 < q then -1 else p
  | o :: r =>
    if q = 1 then -1 else
    if q ≤ otherOf m then (if o = -1 then prF p (m / 2) ((q + 1) / 2) r else -1) else
    if printB o = true then prF (if m % 2 = 0 then pairP p o else pairP o p) (m / 2) ((q + 1) / 2) r else -1
def proofR (p n many : Int) (proof : List Int) : Int := if (0 ≤ p ∧ p ≤ 16777212) ∧ (1 ≤ many ∧ many ≤ 16) ∧ 0 ≤ n ∧ n < many then prF p n.toNat many.toNat proof else -1
theorem proofR_yes {p : Int} {m q : Nat} {proof : List Int} (hp : 0 ≤ p ∧ p ≤ 16777212) (h1 : 1 ≤ q) (h16 : q ≤ 16) (hm : m < q) : proofR p m q proof = prF p m q proof := by
  unfold proofR
  rw [if_pos ⟨hp, ⟨by omega, by omega⟩, by omega, by omega⟩]
  rfl
theorem proofR_no {p n many : Int} {proof : List Int} (h : ¬ ((0 ≤ p ∧ p ≤ 16777212) ∧ (1 ≤ many ∧ many ≤ 16) ∧ 0 ≤ n ∧ n < many)) : proofR p n many proof = -1 := if_neg h
theorem prF_one (p : Int) (m : Nat) (o : Int) (r : List Int) : prF p m 1 (o :: r) = -1 := by unfold prF; rw [if_pos rfl]
theorem prF_alone {p : Int} {m q : Nat} {o : Int} {r : List Int} (h : q ≠ 1) (ha : q ≤ otherOf m) : prF p m q (o :: r) = if o = -1 then prF p (m / 2) ((q + 1) / 2) r else -1 := by
  rw [prF, if_neg h, if_pos ha]
theorem prF_bad {p : Int} {m q : Nat} {o : Int} {r : List Int} (h : q ≠ 1) (ha : ¬ q ≤ otherOf m) (ho : printB o = false) : prF p m q (o :: r) = -1 := by
  rw [prF, if_neg h, if_neg ha, if_neg (by rw [ho]; simp)]
theorem prF_even {p : Int} {m q : Nat} {o : Int} {r : List Int} (h : q ≠ 1) (ha : ¬ q ≤ otherOf m) (ho : printB o = true) (he : m % 2 = 0) : prF p m q (o :: r) = prF (pairP p o) (m / 2) ((q + 1) / 2) r := by
  rw [prF, if_neg h, if_neg ha, if_pos ho, if_pos he]
theorem prF_odd {p : Int} {m q : Nat} {o : Int} {r : List Int} (h : q ≠ 1) (ha : ¬ q ≤ otherOf m) (ho : printB o = true) (he : ¬ m % 2 = 0) : prF p m q (o :: r) = prF (pairP o p) (m / 2) ((q + 1) / 2) r := by
  rw [prF, if_neg h, if_neg ha, if_pos ho, if_neg he]
theorem drop_cons {α : Type} {l : List α} {k : Nat} {x : α} (h : l[k]? = some x) : l.drop k = x :: l.drop (k + 1) := by
  obtain ⟨hk, rfl⟩ := List.getElem?_eq_some_iff.1 h
  exact List.drop_eq_getElem_cons hk
end Go.Proofs.Ytgnliaekngbmbaa
