/- Plain words on trees: another print at one place, another root. -/
import Derived.Test.YtgnliaekngbmbaaPlain
open Go.RowKit
namespace Go.Proofs.Ytgnliaekngbmbaa
theorem printB_bd {x : Int} (h : printB x = true) : 0 ≤ x ∧ x ≤ 16777212 := of_decide_eq_true h
theorem levelUp_set : ∀ (xs : List Int) (k : Nat) (x y : Int), xs.all printB = true → printB y = true → xs[k]? = some x → x ≠ y →
    ∃ a b, (levelUp xs)[k / 2]? = some a ∧ levelUp (xs.set k y) = (levelUp xs).set (k / 2) b ∧ a ≠ b ∧ printB b = true
  | [], k, x, y, _, _, h, _ => by simp at h
  | [c], 0, x, y, _, hy, h, hne => by
    have hx : c = x := by simpa using h
    exact ⟨c, y, rfl, rfl, by rw [hx]; exact hne, hy⟩
  | [_], k + 1, _, _, _, _, h, _ => by simp at h
  | c :: d :: r, 0, x, y, ha, hy, h, hne => by
    have hx : c = x := by simpa using h
    subst hx
    rw [List.all_cons, List.all_cons, Bool.and_eq_true, Bool.and_eq_true] at ha
    have h1 := printB_bd ha.1
    have h2 := printB_bd ha.2.1
    have h3 := printB_bd hy
    exact ⟨pairP c d, pairP y d, rfl, rfl, fun e => hne (pairP_inj1 h1 h3 h2 e), printB_yes (pairP_nonneg h3.1 h3.2 h2.1 h2.2) pairP_bd.2⟩
  | c :: d :: r, 1, x, y, ha, hy, h, hne => by
    have hx : d = x := by simpa using h
    subst hx
    rw [List.all_cons, List.all_cons, Bool.and_eq_true, Bool.and_eq_true] at ha
    have h1 := printB_bd ha.1
    have h2 := printB_bd ha.2.1
    have h3 := printB_bd hy
    exact ⟨pairP c d, pairP c y, rfl, rfl, fun e => hne (pairP_inj2 h2 h3 h1 e), printB_yes (pairP_nonneg h1.1 h1.2 h3.1 h3.2) pairP_bd.2⟩
  | c :: d :: r, k + 2, x, y, ha, hy, h, hne => by
    rw [List.all_cons, List.all_cons, Bool.and_eq_true, Bool.and_eq_true] at ha
    rw [List.getElem?_cons_succ, List.getElem?_cons_succ] at h
    obtain ⟨a, b, h1, h2, h3, h4⟩ := levelUp_set r k x y ha.2.2 hy h hne
    have e : (k + 2) / 2 = k / 2 + 1 := by omega
    refine ⟨a, b, ?_, ?_, h3, h4⟩
    · rw [e, levelUp, List.getElem?_cons_succ]
      exact h1
    · rw [e, levelUp, List.set_cons_succ, List.set_cons_succ, levelUp, h2, List.set_cons_succ]
theorem topOf_set : ∀ (n : Nat) (xs : List Int) (k : Nat) (x y : Int), xs.length ≤ n → xs.all printB = true → printB y = true → xs[k]? = some x → x ≠ y → topOf (xs.set k y) ≠ topOf xs
  | 0, xs, k, x, y, hl, _, _, h, _ => by
    obtain ⟨hk, _⟩ := List.getElem?_eq_some_iff.1 h
    omega
  | n + 1, xs, k, x, y, hl, ha, hy, h, hne => by
    obtain ⟨hk, _⟩ := List.getElem?_eq_some_iff.1 h
    rcases Nat.lt_or_ge xs.length 2 with h2 | h2
    · obtain ⟨c, rfl⟩ : ∃ c, xs = [c] := List.length_eq_one_iff.1 (by omega)
      have hk0 : k = 0 := by simp at hk; exact hk
      subst hk0
      have hx : c = x := by simpa using h
      subst hx
      show topOf [y] ≠ topOf [c]
      rw [topOf_one, topOf_one]
      exact fun e => hne e.symm
    · obtain ⟨a, b, h3, h4, h5, h6⟩ := levelUp_set xs k x y ha hy h hne
      rw [← topOf_up h2, ← topOf_up (xs := xs.set k y) (by rw [List.length_set]; exact h2), h4]
      exact topOf_set n (levelUp xs) (k / 2) a b (by rw [levelUp_length]; omega) (levelUp_ok ha) h6 h3 h5
theorem all_set {xs : List Int} {k : Nat} {y : Int} (ha : xs.all printB = true) (hy : printB y = true) : (xs.set k y).all printB = true := by
  rw [List.all_eq_true] at ha ⊢
  intro z hz
  rcases List.mem_or_eq_of_mem_set hz with hz | rfl
  · exact ha z hz
  · exact hy
theorem leavesV_parts {xs : List Int} (h : leavesV xs = true) : (1 ≤ xs.length ∧ xs.length ≤ 16) ∧ xs.all printB = true := by
  unfold leavesV at h
  rw [Bool.and_eq_true] at h
  exact ⟨of_decide_eq_true h.1, h.2⟩
theorem leavesV_of {xs : List Int} (h : 1 ≤ xs.length ∧ xs.length ≤ 16) (ha : xs.all printB = true) : leavesV xs = true := by
  unfold leavesV
  rw [decide_eq_true h, ha]
  rfl
/-- Another print at one place, another root. -/
theorem treeR_set {xs : List Int} {k : Nat} {x y : Int} (hv : leavesV xs = true) (hy : printB y = true) (h : xs[k]? = some x) (hne : x ≠ y) : treeR (xs.set k y) ≠ treeR xs := by
  obtain ⟨hl, ha⟩ := leavesV_parts hv
  rw [treeR_yes hv, treeR_yes (leavesV_of (by rw [List.length_set]; exact hl) (all_set ha hy))]
  exact topOf_set _ xs k x y (Nat.le_refl _) ha hy h hne
theorem treeR_one {x : Int} (hx : printB x = true) : treeR [x] = x := by
  rw [treeR_yes (leavesV_of ⟨Nat.le_refl _, by simp⟩ (by rw [List.all_cons, hx]; rfl)), topOf_one]
theorem topOf_bd : ∀ (n : Nat) (xs : List Int), xs.length ≤ n → 1 ≤ xs.length → xs.all printB = true → printB (topOf xs) = true
  | 0, _, h, h1, _ => by omega
  | n + 1, xs, h, h1, ha => by
    rcases Nat.lt_or_ge xs.length 2 with h2 | h2
    · obtain ⟨c, rfl⟩ : ∃ c, xs = [c] := List.length_eq_one_iff.1 (by omega)
      rw [topOf_one]
      rw [List.all_cons, Bool.and_eq_true] at ha
      exact ha.1
    · rw [← topOf_up h2]
      exact topOf_bd n (levelUp xs) (by rw [levelUp_length]; omega) (by rw [levelUp_length]; omega) (levelUp_ok ha)
theorem treeR_bd {xs : List Int} (hv : leavesV xs = true) : printB (treeR xs) = true := by
  obtain ⟨hl, ha⟩ := leavesV_parts hv
  rw [treeR_yes hv]
  exact topOf_bd _ xs (Nat.le_refl _) hl.1 ha
end Go.Proofs.Ytgnliaekngbmbaa
