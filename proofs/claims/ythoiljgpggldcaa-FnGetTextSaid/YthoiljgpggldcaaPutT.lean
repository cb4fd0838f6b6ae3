/- Contract of the program's PutText. And plain words: what putting a text comes to. -/
import Derived.Test.YthoiljgpggldcaaM2
import Derived.Test.YthoiljgpggldcaaM4
import Derived.Test.YthoiljgpggldcaaStoreV
import Derived.Test.YthoiljgpggldcaaWords
open Go.RowKit
namespace Go.Proofs.Ythoiljgpggldcaa
def insP (xs : List (Int × ByteArray)) (s : ByteArray) : List (Int × ByteArray) := xs.take (posOf (pcBelow (printP s)) xs) ++ [(printP s, s)] ++ xs.drop (posOf (pcBelow (printP s)) xs)
def putT (xs : List (Int × ByteArray)) (s : ByteArray) : List (Int × ByteArray) × Int × Bool :=
  if storeV xs = true then
    if textV (bts s) = true then
      if foundOf (pcBelow (printP s)) (pcIs (printP s)) xs = true then
        (if (xs[posOf (pcBelow (printP s)) xs]?).map (·.2) = some s then (xs, printP s, true) else (xs, -1, false))
      else if xs.length = 40 then (xs, -1, false) else (insP xs s, printP s, true)
    else (xs, -1, false)
  else ([], -1, false)
section
variable {xs : List (Int × ByteArray)} {s : ByteArray}
theorem putT_bad (h : storeV xs = false) : putT xs s = ([], -1, false) := if_neg (by rw [h]; simp)
theorem putT_no (h : storeV xs = true) (ht : textV (bts s) = false) : putT xs s = (xs, -1, false) := by
  unfold putT
  rw [if_pos h, if_neg (by rw [ht]; simp)]
theorem putT_here {x : Int × ByteArray} (h : storeV xs = true) (ht : textV (bts s) = true) (hf : foundOf (pcBelow (printP s)) (pcIs (printP s)) xs = true) (hx : xs[posOf (pcBelow (printP s)) xs]? = some x) (he : x.2 = s) : putT xs s = (xs, printP s, true) := by
  unfold putT
  rw [if_pos h, if_pos ht, if_pos hf, hx, if_pos (by rw [← he]; rfl)]
theorem putT_other {x : Int × ByteArray} (h : storeV xs = true) (ht : textV (bts s) = true) (hf : foundOf (pcBelow (printP s)) (pcIs (printP s)) xs = true) (hx : xs[posOf (pcBelow (printP s)) xs]? = some x) (he : ¬ x.2 = s) : putT xs s = (xs, -1, false) := by
  unfold putT
  rw [if_pos h, if_pos ht, if_pos hf, hx]
  exact if_neg (fun e => he (Option.some.inj e))
theorem putT_full (h : storeV xs = true) (ht : textV (bts s) = true) (hf : foundOf (pcBelow (printP s)) (pcIs (printP s)) xs = false) (hl : xs.length = 40) : putT xs s = (xs, -1, false) := by
  unfold putT
  rw [if_pos h, if_pos ht, if_neg (by rw [hf]; simp), if_pos hl]
theorem putT_new (h : storeV xs = true) (ht : textV (bts s) = true) (hf : foundOf (pcBelow (printP s)) (pcIs (printP s)) xs = false) (hl : ¬ xs.length = 40) : putT xs s = (insP xs s, printP s, true) := by
  unfold putT
  rw [if_pos h, if_pos ht, if_neg (by rw [hf]; simp), if_neg hl]
theorem insP_len : (insP xs s).length = xs.length + 1 := by
  have := posOf_le (pcBelow (printP s)) xs
  unfold insP
  rw [List.length_append, List.length_append, List.length_take, List.length_drop, List.length_singleton]
  omega
theorem putT_len : (putT xs s).1.length ≤ xs.length + 1 := by
  unfold putT
  split
  · split
    · split
      · split <;> exact Nat.le_succ _
      · split
        · exact Nat.le_succ _
        · exact Nat.le_of_eq insP_len
    · exact Nat.le_succ _
  · exact Nat.zero_le _
theorem insP_mem : ∀ x ∈ insP xs s, x ∈ xs ∨ x = (printP s, s) := by
  intro x hx
  unfold insP at hx
  rw [List.mem_append, List.mem_append, List.mem_singleton] at hx
  rcases hx with (hx | hx) | hx
  · exact .inl (List.mem_of_mem_take hx)
  · exact .inr hx
  · exact .inl (List.mem_of_mem_drop hx)
theorem putT_mem : ∀ x ∈ (putT xs s).1, x ∈ xs ∨ x = (printP s, s) := by
  intro x hx
  unfold putT at hx
  split at hx
  · split at hx
    · split at hx
      · split at hx <;> exact .inl hx
      · split at hx
        · exact .inl hx
        · exact insP_mem x hx
    · exact .inl hx
  · cases hx
end
end Go.Proofs.Ythoiljgpggldcaa
