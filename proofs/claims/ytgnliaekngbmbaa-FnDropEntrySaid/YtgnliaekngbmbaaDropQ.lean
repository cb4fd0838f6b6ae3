/- Plain words: entries without one are entries. -/
import Derived.Test.YtgnliaekngbmbaaDropP
open Go.RowKit
namespace Go.Proofs.Ytgnliaekngbmbaa
section
variable {α : Type} {ok : α → Bool} {lt : α → α → Bool} {m : Nat}
theorem good_pairs (htr : ∀ x y z, lt x y = true → lt y z = true → lt x z = true) : ∀ {xs : List α}, goodAll ok lt m xs = true → xs.Pairwise (fun x y => lt x y = true)
  | [], _ => List.Pairwise.nil
  | [x], _ => List.pairwise_singleton _ _
  | x :: y :: r, h => by
    have ih := good_pairs htr (good_tail h)
    have h1 := goodAll_at h (show 1 < (x :: y :: r).length by rw [List.length_cons, List.length_cons]; omega)
    rw [goodAt_succ (x := y) (y := x) rfl rfl (goodAt_ok h1 rfl)] at h1
    refine List.Pairwise.cons (fun z hz => ?_) ih
    rcases List.mem_cons.1 hz with rfl | hz
    · exact h1
    · exact htr _ _ _ h1 ((List.pairwise_cons.1 ih).1 z hz)
theorem good_all {xs : List α} (h : goodAll ok lt m xs = true) : ∀ x ∈ xs, ok x = true := by
  intro x hx
  obtain ⟨j, hj⟩ := List.getElem?_of_mem hx
  obtain ⟨hl, _⟩ := List.getElem?_eq_some_iff.1 hj
  exact goodAt_ok (goodAll_at h hl) hj
theorem good_of {xs : List α} (hl : xs.length ≤ m) (ho : ∀ x ∈ xs, ok x = true) (hp : xs.Pairwise (fun x y => lt x y = true)) : goodAll ok lt m xs = true := by
  rw [goodAll_ok (fun j hj => ?_)]
  · exact decide_eq_true hl
  · have hx : xs[j]? = some xs[j] := List.getElem?_eq_getElem hj
    cases j with
    | zero => exact goodAt_zero hx (ho _ (List.getElem_mem hj))
    | succ j =>
      rw [goodAt_succ hx (List.getElem?_eq_getElem (show j < xs.length by omega)) (ho _ (List.getElem_mem hj))]
      exact List.pairwise_iff_getElem.1 hp j (j + 1) (by omega) hj (by omega)
end
theorem entries_filter {xs : List (ByteArray × Int)} (h : entriesV xs = true) (f : ByteArray × Int → Bool) : entriesV (xs.filter f) = true :=
  good_of (Nat.le_trans (List.length_filter_le _ _) (goodAll_len h)) (fun x hx => good_all h x ((List.mem_filter.1 hx).1)) ((good_pairs (lt := entryLt) (fun _ _ _ h1 h2 => bytesLess_trans _ _ _ h1 h2) h).sublist (List.filter_sublist))
/-- What a law of dropping says. -/
theorem drop_none {xs : List (ByteArray × Int)} {t : ByteArray} (h : dropB xs t = false) : dropE xs t = xs ∨ dropE xs t = [] := by
  cases hv : entriesV xs
  · exact .inr (dropE_no hv)
  · left
    rw [dropE_yes hv]
    cases hf : foundOf (enBelow t) (enIs t) xs
    · exact filter_none hv hf
    · exfalso
      obtain ⟨h1, h2⟩ := filter_one hv hf
      unfold dropB at h
      rw [hv, Bool.true_and, dropE_yes hv, h2, List.length_append, List.length_take, List.length_drop] at h
      have := of_decide_eq_false h
      omega
theorem drop_some {xs : List (ByteArray × Int)} {t : ByteArray} (h : dropB xs t = true) : entriesV (dropE xs t) = true ∧ dropB (dropE xs t) t = false ∧ (dropE xs t).length + 1 = xs.length := by
  unfold dropB at h
  rw [Bool.and_eq_true] at h
  obtain ⟨hv, hl⟩ := h
  have hl := of_decide_eq_true hl
  have hw : entriesV (dropE xs t) = true := by rw [dropE_yes hv]; exact entries_filter hv _
  refine ⟨hw, ?_, ?_⟩
  · unfold dropB
    rw [hw, Bool.true_and]
    refine decide_eq_false ?_
    rw [dropE_yes hw, dropE_yes hv, List.filter_filter]
    simp
  · rw [dropE_yes hv] at hl ⊢
    cases hf : foundOf (enBelow t) (enIs t) xs
    · rw [filter_none hv hf] at hl
      omega
    · obtain ⟨h1, h2⟩ := filter_one hv hf
      rw [h2, List.length_append, List.length_take, List.length_drop]
      omega
theorem dropE_sub {xs : List (ByteArray × Int)} {t : ByteArray} : ∀ x ∈ dropE xs t, x ∈ xs := by
  intro x hx
  unfold dropE at hx
  split at hx
  · exact (List.mem_filter.1 hx).1
  · cases hx
end Go.Proofs.Ytgnliaekngbmbaa
