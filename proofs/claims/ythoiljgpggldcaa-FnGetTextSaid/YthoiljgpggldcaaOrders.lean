/- A region that draws its order, by an invariant. Plain law, over whatever program. -/
import Derived.Test.YthoiljgpggldcaaMem
import Derived.Orders
open Go.RowKit
namespace Go.Proofs.Ythoiljgpggldcaa
def left (listed : Array Bool) (n : Nat) : Nat := ((List.range n).filter fun i => !listed.getD i true).length
theorem left_zero {md : Region.Mode} {ops : Array Oper} {listed : Array Bool} (h : left listed ops.size = 0) : Region.ready md ops listed = [] := by
  unfold left at h
  rw [List.length_eq_zero_iff, List.filter_eq_nil_iff] at h
  unfold Region.ready
  rw [List.filter_eq_nil_iff]
  intro i hi e
  rw [Bool.and_eq_true] at e
  exact h i hi e.1
theorem filter_lt {p q : Nat → Bool} {l : List Nat} {i : Nat} (hi : i ∈ l) (hp : p i = true) (hq : q i = false) (h : ∀ j, q j = true → p j = true) : (l.filter q).length < (l.filter p).length := by
  induction l with
  | nil => cases hi
  | cons j l ih =>
    have hle : (l.filter q).length ≤ (l.filter p).length := by
      clear ih hi
      induction l with
      | nil => exact Nat.le_refl _
      | cons k l ih =>
        rw [List.filter_cons, List.filter_cons]
        by_cases hk : q k = true
        · rw [if_pos hk, if_pos (h k hk)]
          simp only [List.length_cons]
          omega
        · rw [if_neg hk]
          split
          · simp only [List.length_cons]; omega
          · exact ih
    rw [List.filter_cons, List.filter_cons]
    rcases List.mem_cons.1 hi with rfl | hi
    · rw [if_pos hp, if_neg (by rw [hq]; simp)]
      simp only [List.length_cons]
      omega
    · have := ih hi
      by_cases hk : q j = true
      · rw [if_pos hk, if_pos (h j hk)]
        simp only [List.length_cons]
        omega
      · rw [if_neg hk]
        split
        · simp only [List.length_cons]; omega
        · exact this
theorem left_set {listed : Array Bool} {n i : Nat} (hi : i < n) (hf : listed.getD i true = false) : left (listed.setIfInBounds i true) n < left listed n := by
  unfold left
  refine filter_lt (List.mem_range.2 hi) (by rw [hf]; rfl) ?_ (fun j hj => ?_)
  · have hlt : i < listed.size := by
      rcases Nat.lt_or_ge i listed.size with h | h
      · exact h
      · rw [Array.getD_eq_getD_getElem?, Array.getElem?_eq_none h] at hf; cases hf
    simp [hlt]
  · by_cases e : i = j
    · subst e
      rw [hf]; rfl
    · rw [getD_set_ne true e] at hj
      exact hj
/-- An invariant of what is listed, the frame and the world serves every order. -/
theorem wpAny_inv {P : Program} {md : Region.Mode} {ops : Array Oper} {Q : Exit → Act → World → Prop} (I : Array Bool → Act → World → Prop)
    (step : ∀ listed a w i, I listed a w → i ∈ Region.ready md ops listed → wpOp P ops Q i (I (listed.setIfInBounds i true)) a w)
    (done : ∀ listed a w, I listed a w → Region.ready md ops listed = [] → Q .normal a w) :
    ∀ (fuel : Nat) (listed : Array Bool) (a : Act) (w : World), left listed ops.size ≤ fuel → I listed a w → wpAny P md ops Q fuel listed a w
  | 0, listed, a, w, hf, hI => ⟨left_zero (by omega), done listed a w hI (left_zero (by omega))⟩
  | fuel + 1, listed, a, w, hf, hI => ⟨fun hr => done listed a w hI hr, fun i hi => by
      refine wpOp_mono (fun a' w' hI' => wpAny_inv I step done fuel _ a' w' ?_ hI') (step listed a w i hI hi)
      obtain ⟨h0, o, ho, _⟩ := mem_ready.1 hi
      have := left_set (n := ops.size) (Array.getElem?_eq_some_iff.1 ho).1 h0
      omega⟩
theorem wpOp_at {P : Program} {ops : Array Oper} {Q : Exit → Act → World → Prop} {i : Nat} {K : Act → World → Prop} {a : Act} {w : World} {o : Oper} (ho : ops[i]? = some o) (hg : o.guard = none) (h : o.wp P a w K Q) : wpOp P ops Q i K a w := by
  unfold wpOp
  rw [ho]
  dsimp only
  rw [if_pos (by simp [Region.wanted, hg])]
  exact .inl h
end Go.Proofs.Ythoiljgpggldcaa
