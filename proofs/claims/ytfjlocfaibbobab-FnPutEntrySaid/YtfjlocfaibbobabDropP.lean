/- Plain words on entries without a name. -/
import Derived.Test.YtfjlocfaibbobabFind
import Derived.Test.YtfjlocfaibbobabFindE
import Derived.Test.YtfjlocfaibbobabDrawE
open Go.RowKit
namespace Go.Proofs.Ytfjlocfaibbobab
def notN (t : ByteArray) (x : ByteArray × Int) : Bool := !decide (x.1 = t)
def dropE (xs : List (ByteArray × Int)) (t : ByteArray) : List (ByteArray × Int) := if entriesV xs = true then xs.filter (notN t) else []
def dropB (xs : List (ByteArray × Int)) (t : ByteArray) : Bool := entriesV xs && decide ((dropE xs t).length < xs.length)
theorem dropE_yes {xs : List (ByteArray × Int)} {t : ByteArray} (h : entriesV xs = true) : dropE xs t = xs.filter (notN t) := if_pos h
theorem dropE_no {xs : List (ByteArray × Int)} {t : ByteArray} (h : entriesV xs = false) : dropE xs t = [] := if_neg (by rw [h]; simp)
theorem dropE_len {xs : List (ByteArray × Int)} {t : ByteArray} : (dropE xs t).length ≤ xs.length := by
  unfold dropE
  split
  · exact List.length_filter_le _ _
  · exact Nat.zero_le _
/-- Where the name is not among them nothing goes. -/
theorem filter_none {xs : List (ByteArray × Int)} {t : ByteArray} (hv : entriesV xs = true) (h : foundOf (enBelow t) (enIs t) xs = false) : xs.filter (notN t) = xs := by
  have hf : Falls (fun x => enBelow t x || enIs t x) xs := falls_of hv fun x y hl hp => by
    have h2 : enBelow t y = true ∨ enIs t y = true := by simpa using hp
    rcases h2 with h2 | h2
    · have : enBelow t x = true := bytesLess_trans _ _ _ hl h2
      simp [this]
    · have he : y.1 = t := of_decide_eq_true h2
      have : enBelow t x = true := by
        have hl' : ltB x.1 y.1 = true := hl
        rw [he] at hl'
        exact hl'
      simp [this]
  have hn := found_no hf (fun x hi => by
    have he : x.1 = t := of_decide_eq_true hi
    show ltB x.1 t = false
    rw [he]
    exact ltB_self t) h
  rw [List.filter_eq_self]
  intro x hx
  have := hn x hx
  unfold notN
  unfold enIs at this
  rw [this]
  rfl
theorem filter_one {xs : List (ByteArray × Int)} {t : ByteArray} (hv : entriesV xs = true) (h : foundOf (enBelow t) (enIs t) xs = true) :
    posOf (enBelow t) xs < xs.length ∧ xs.filter (notN t) = xs.take (posOf (enBelow t) xs) ++ xs.drop (posOf (enBelow t) xs + 1) := by
  obtain ⟨x, hx, hi⟩ := found_yes h
  have hpx := posOf_at hx
  have hff := entries_falls hv t
  obtain ⟨hlt, hxe⟩ := List.getElem?_eq_some_iff.1 hx
  have hbef : ∀ k y, k < posOf (enBelow t) xs → xs[k]? = some y → notN t y = true := fun k y hk hy => by
    have h1 : enBelow t y = true := posOf_before hk hy
    have hne : ¬ y.1 = t := fun e => by
      have h2 : ltB y.1 t = true := h1
      rw [e, ltB_self] at h2
      cases h2
    unfold notN
    rw [decide_eq_false hne]
    rfl
  have haft : ∀ k y, posOf (enBelow t) xs < k → xs[k]? = some y → notN t y = true := fun k y hk hy => by
    obtain ⟨hkl, _⟩ := List.getElem?_eq_some_iff.1 hy
    have hne : ¬ y.1 = t := fun e => by
      obtain ⟨k', rfl⟩ : ∃ k', k = k' + 1 := ⟨k - 1, by omega⟩
      have hz : xs[k']? = some (xs[k']'(by omega)) := List.getElem?_eq_getElem (by omega)
      have hg := goodAll_at hv hkl
      rw [goodAt_succ hy hz (goodAt_ok hg hy)] at hg
      have h3 : ltB (xs[k']'(by omega)).1 t = true := by
        have hg' : ltB (xs[k']'(by omega)).1 y.1 = true := hg
        rw [e] at hg'
        exact hg'
      have h4 := hff (posOf (enBelow t) xs) k' x _ (by omega) hx hz h3
      rw [hpx] at h4
      cases h4
    unfold notN
    rw [decide_eq_false hne]
    rfl
  refine ⟨hlt, ?_⟩
  have hsplit : xs = xs.take (posOf (enBelow t) xs) ++ x :: xs.drop (posOf (enBelow t) xs + 1) := by
    rw [← hxe, ← List.drop_eq_getElem_cons hlt, List.take_append_drop]
  generalize hp : posOf (enBelow t) xs = q at *
  have h1 : (xs.take q).filter (notN t) = xs.take q := by
    rw [List.filter_eq_self]
    intro y hy
    obtain ⟨j, hj⟩ := List.getElem?_of_mem hy
    rw [List.getElem?_take] at hj
    split at hj
    · exact hbef j y (by assumption) hj
    · cases hj
  have h2 : (xs.drop (q + 1)).filter (notN t) = xs.drop (q + 1) := by
    rw [List.filter_eq_self]
    intro y hy
    obtain ⟨j, hj⟩ := List.getElem?_of_mem hy
    rw [List.getElem?_drop] at hj
    exact haft (q + 1 + j) y (by omega) hj
  have h3 : notN t x = false := by
    unfold notN
    unfold enIs at hi
    rw [hi]
    rfl
  calc xs.filter (notN t) = (xs.take q ++ x :: xs.drop (q + 1)).filter (notN t) := by rw [← hsplit]
    _ = xs.take q ++ xs.drop (q + 1) := by rw [List.filter_append, List.filter_cons, h3, h1, h2]; rfl
end Go.Proofs.Ytfjlocfaibbobab
