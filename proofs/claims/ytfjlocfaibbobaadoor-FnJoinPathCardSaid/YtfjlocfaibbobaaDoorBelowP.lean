/- Plain words on paths below others. -/
import Derived.Test.YtfjlocfaibbobaaDoorDrawPath
open Go.RowKit
namespace Go.Proofs.YtfjlocfaibbobaaDoor
def belowP (a b : ByteArray) : Bool := (partsP a).2 && ((partsP b).2 && decide ((partsP b).1.length ≤ (partsP a).1.length ∧ (partsP a).1.take (partsP b).1.length = (partsP b).1))
theorem partsP_root : partsP slash = ([], true) := if_pos rfl
theorem belowP_self (a : ByteArray) : belowP a a = (partsP a).2 := by
  unfold belowP
  cases (partsP a).2 <;> simp
theorem belowP_root (a : ByteArray) : belowP a slash = (partsP a).2 := by
  unfold belowP
  rw [partsP_root]
  simp
theorem belowP_yes {a b : ByteArray} (h : belowP a b = true) : (partsP a).2 = true ∧ (partsP b).2 = true ∧ (partsP b).1.length ≤ (partsP a).1.length ∧ (partsP a).1.take (partsP b).1.length = (partsP b).1 := by
  unfold belowP at h
  rw [Bool.and_eq_true, Bool.and_eq_true] at h
  have := of_decide_eq_true h.2.2
  exact ⟨h.1, h.2.1, this.1, this.2⟩
theorem belowP_both {a b : ByteArray} (h1 : belowP a b = true) (h2 : belowP b a = true) : a = b := by
  obtain ⟨p1, p2, p3, p4⟩ := belowP_yes h1
  obtain ⟨_, _, q3, _⟩ := belowP_yes h2
  rw [List.take_of_length_le q3] at p4
  rw [← partsP_join p1, ← partsP_join p2, p4]
theorem partsP_of_join {xs : List ByteArray} (h : joinP xs ≠ ⟨#[]⟩) : partsP (joinP xs) = (xs, true) := by
  by_cases ho : pathOk xs = true
  · by_cases hn : xs = []
    · subst hn
      have e : joinP [] = slash := by unfold joinP; rw [if_pos ho]; rfl
      rw [e]
      exact if_pos rfl
    · have e : joinP xs = slB xs := by unfold joinP; rw [if_pos ho, if_neg hn]
      obtain ⟨f1, f2, _⟩ := slB_fits ho hn
      have hs : slB xs ≠ slash := fun e => slB_last ho hn (by rw [e]; rfl)
      rw [e]
      unfold partsP
      rw [if_neg hs, if_pos ⟨f1, by rw [f2, e]⟩, f2]
  · exact absurd (if_neg ho) h
end Go.Proofs.YtfjlocfaibbobaaDoor
