/- Plain words on proofs: they lead to the root, another print to another one, and a longer proof to none. -/
import Derived.Test.YtgnliaekngbmbaaTreeP
import Derived.Test.YtgnliaekngbmbaaTreeL
open Go.RowKit
namespace Go.Proofs.Ytgnliaekngbmbaa
theorem prF_nil {p : Int} {m q : Nat} : prF p m q [] = if 1 < q then -1 else p := by unfold prF; rfl
theorem other_even {m : Nat} (h : m % 2 = 0) : otherOf m = m + 1 := by unfold otherOf; rw [if_pos h]
theorem other_odd {m : Nat} (h : ¬ m % 2 = 0) : otherOf m = m - 1 := by unfold otherOf; rw [if_neg h]
/-- What the first step does, or that it ends there. -/
theorem prF_inj : ∀ (proof : List Int) (p p' : Int) (m q : Nat), (0 ≤ p ∧ p ≤ 16777212) → (0 ≤ p' ∧ p' ≤ 16777212) → p ≠ p' → 0 ≤ prF p m q proof → prF p' m q proof ≠ prF p m q proof
  | [], p, p', m, q, _, _, hne, h0 => by
    rw [prF_nil] at h0 ⊢
    rw [prF_nil]
    split at h0
    · omega
    · rename_i hq
      rw [if_neg hq, if_neg hq]
      exact fun e => hne e.symm
  | o :: r, p, p', m, q, hp, hp', hne, h0 => by
    by_cases hq : q = 1
    · rw [hq, prF_one] at h0; omega
    · by_cases ha : q ≤ otherOf m
      · rw [prF_alone hq ha] at h0 ⊢
        rw [prF_alone hq ha]
        split at h0
        · rename_i ho
          rw [if_pos ho, if_pos ho]
          exact prF_inj r p p' _ _ hp hp' hne h0
        · omega
      · cases ho : printB o
        · rw [prF_bad hq ha ho] at h0; omega
        · have hb := printB_bd ho
          by_cases he : m % 2 = 0
          · rw [prF_even hq ha ho he] at h0 ⊢
            rw [prF_even hq ha ho he]
            exact prF_inj r _ _ _ _ ⟨pairP_nonneg hp.1 hp.2 hb.1 hb.2, pairP_bd.2⟩ ⟨pairP_nonneg hp'.1 hp'.2 hb.1 hb.2, pairP_bd.2⟩ (fun e => hne (pairP_inj1 hp hp' hb e)) h0
          · rw [prF_odd hq ha ho he] at h0 ⊢
            rw [prF_odd hq ha ho he]
            exact prF_inj r _ _ _ _ ⟨pairP_nonneg hb.1 hb.2 hp.1 hp.2, pairP_bd.2⟩ ⟨pairP_nonneg hb.1 hb.2 hp'.1 hp'.2, pairP_bd.2⟩ (fun e => hne (pairP_inj2 hp hp' hb e)) h0
theorem prF_more : ∀ (proof : List Int) (p x : Int) (m q : Nat), 1 ≤ q → 0 ≤ prF p m q proof → prF p m q (proof ++ [x]) = -1
  | [], p, x, m, q, hq1, h0 => by
    rw [prF_nil] at h0
    split at h0
    · omega
    · obtain rfl : q = 1 := by omega
      exact prF_one p m x []
  | o :: r, p, x, m, q, hq1, h0 => by
    rw [List.cons_append]
    by_cases hq : q = 1
    · rw [hq, prF_one]
    · by_cases ha : q ≤ otherOf m
      · rw [prF_alone hq ha] at h0
        rw [prF_alone hq ha]
        split at h0
        · rename_i ho
          rw [if_pos ho]
          exact prF_more r p x _ _ (by omega) h0
        · omega
      · cases ho : printB o
        · rw [prF_bad hq ha ho]
        · by_cases he : m % 2 = 0
          · rw [prF_even hq ha ho he] at h0
            rw [prF_even hq ha ho he]
            exact prF_more r _ x _ _ (by omega) h0
          · rw [prF_odd hq ha ho he] at h0
            rw [prF_odd hq ha ho he]
            exact prF_more r _ x _ _ (by omega) h0
theorem all_at {xs : List Int} {k : Nat} {x : Int} (ha : xs.all printB = true) (h : xs[k]? = some x) : printB x = true :=
  (List.all_eq_true.1 ha) x (List.mem_of_getElem? h)
theorem prF_up : ∀ (n : Nat) (xs : List Int) (m : Nat) (x : Int), xs.length ≤ n → xs.all printB = true → xs[m]? = some x → prF x m xs.length (proofOf xs m) = topOf xs
  | 0, xs, m, x, hl, _, h => by
    obtain ⟨hk, _⟩ := List.getElem?_eq_some_iff.1 h
    omega
  | n + 1, xs, m, x, hl, ha, h => by
    obtain ⟨hk, _⟩ := List.getElem?_eq_some_iff.1 h
    rcases Nat.lt_or_ge xs.length 2 with h2 | h2
    · obtain ⟨c, rfl⟩ : ∃ c, xs = [c] := List.length_eq_one_iff.1 (by omega)
      obtain rfl : m = 0 := by simpa using hk
      have hx : c = x := by simpa using h
      subst hx
      rw [proofOf_short 0 (by simp), prF_nil, topOf_one]
      rfl
    · rw [proofOf_up m h2, ← topOf_up h2]
      have ih := prF_up n (levelUp xs) (m / 2)
      rw [levelUp_length] at ih
      have hq : xs.length ≠ 1 := by omega
      by_cases he : m % 2 = 0
      · have ho := other_even he
        rcases Nat.lt_or_ge (m + 1) xs.length with h1 | h1
        · have hy : xs[otherOf m]? = some (xs[m + 1]'h1) := (congrArg (fun i => xs[i]?) ho).trans (List.getElem?_eq_getElem h1)
          have hpo := all_at ha hy
          rw [hy]
          simp only [Option.getD_some]
          rw [prF_even hq (by omega) hpo he]
          have em : 2 * (m / 2) = m := by omega
          refine ih _ (by omega) (levelUp_ok ha) (levelUp_get2 xs (m / 2) x _ (by rw [em]; exact h) ?_)
          rw [em]
          exact (congrArg (fun i => xs[i]?) ho).symm.trans hy
        · have hy : xs[otherOf m]? = none := List.getElem?_eq_none (by omega)
          rw [hy]
          simp only [Option.getD_none]
          rw [prF_alone hq (by omega), if_pos rfl]
          have em : 2 * (m / 2) = m := by omega
          refine ih _ (by omega) (levelUp_ok ha) (levelUp_get1 xs (m / 2) x (by rw [em]; exact h) ?_)
          rw [em]
          exact (congrArg (fun i => xs[i]?) ho).symm.trans hy
      · have ho := other_odd he
        have h1 : m - 1 < xs.length := by omega
        have hy : xs[otherOf m]? = some (xs[m - 1]'h1) := (congrArg (fun i => xs[i]?) ho).trans (List.getElem?_eq_getElem h1)
        have hpo := all_at ha hy
        rw [hy]
        simp only [Option.getD_some]
        rw [prF_odd hq (by omega) hpo he]
        have em : 2 * (m / 2) = m - 1 := by omega
        have em1 : 2 * (m / 2) + 1 = m := by omega
        refine ih _ (by omega) (levelUp_ok ha) (levelUp_get2 xs (m / 2) _ x ?_ (by rw [em1]; exact h))
        rw [em]
        exact (congrArg (fun i => xs[i]?) ho).symm.trans hy
theorem treeR_leaves {xs : List Int} (h : 0 ≤ treeR xs) : leavesV xs = true := by
  unfold treeR at h
  split at h
  · assumption
  · omega
theorem treeR_neg {xs : List Int} (h : treeR xs < 0) : leavesV xs = false ∧ treeR xs = -1 := by
  cases hv : leavesV xs
  · refine ⟨rfl, ?_⟩
    unfold treeR
    rw [if_neg (by rw [hv]; simp)]
  · have := printB_bd (treeR_bd hv)
    omega
/-- Proofs prove. -/
theorem proof_proves {xs : List Int} {m : Nat} {x : Int} (hv : leavesV xs = true) (h : xs[m]? = some x) : proofR x m xs.length (treeP xs m) = treeR xs := by
  obtain ⟨hk, _⟩ := List.getElem?_eq_some_iff.1 h
  obtain ⟨⟨l1, l2⟩, ha⟩ := leavesV_parts hv
  rw [treeP_yes hv hk, proofR_yes (printB_bd (all_at ha h)) l1 l2 hk, prF_up _ xs m x (Nat.le_refl _) ha h]
  unfold treeR
  rw [if_pos hv]
theorem proof_other {p p' n many : Int} {proof : List Int} (hne : p ≠ p') (hp' : 0 ≤ p' ∧ p' ≤ 16777212) (h : 0 ≤ proofR p n many proof) : proofR p' n many proof ≠ proofR p n many proof := by
  by_cases hc : (0 ≤ p ∧ p ≤ 16777212) ∧ (1 ≤ many ∧ many ≤ 16) ∧ 0 ≤ n ∧ n < many
  · have e1 : proofR p n many proof = prF p n.toNat many.toNat proof := if_pos hc
    have e2 : proofR p' n many proof = prF p' n.toNat many.toNat proof := if_pos ⟨hp', hc.2⟩
    rw [e1] at h ⊢
    rw [e2]
    exact prF_inj proof p p' _ _ hc.1 hp' hne h
  · rw [proofR_no hc] at h
    omega
theorem proof_more {p n many x : Int} {proof : List Int} (h : 0 ≤ proofR p n many proof) : proofR p n many (proof ++ [x]) = -1 := by
  by_cases hc : (0 ≤ p ∧ p ≤ 16777212) ∧ (1 ≤ many ∧ many ≤ 16) ∧ 0 ≤ n ∧ n < many
  · have e1 : proofR p n many proof = prF p n.toNat many.toNat proof := if_pos hc
    have e2 : proofR p n many (proof ++ [x]) = prF p n.toNat many.toNat (proof ++ [x]) := if_pos hc
    rw [e1] at h
    rw [e2]
    exact prF_more proof p x _ _ (by omega) h
  · exact proofR_no hc
theorem prF_ge : ∀ (proof : List Int) (p : Int) (m q : Nat), (0 ≤ p ∧ p ≤ 16777212) → -1 ≤ prF p m q proof
  | [], p, m, q, hp => by
    rw [prF_nil]
    split <;> omega
  | o :: r, p, m, q, hp => by
    by_cases hq : q = 1
    · rw [hq, prF_one]
      omega
    · by_cases ha : q ≤ otherOf m
      · rw [prF_alone hq ha]
        split
        · exact prF_ge r p _ _ hp
        · omega
      · cases ho : printB o
        · rw [prF_bad hq ha ho]
          omega
        · have hb := printB_bd ho
          by_cases he : m % 2 = 0
          · rw [prF_even hq ha ho he]
            exact prF_ge r _ _ _ ⟨pairP_nonneg hp.1 hp.2 hb.1 hb.2, pairP_bd.2⟩
          · rw [prF_odd hq ha ho he]
            exact prF_ge r _ _ _ ⟨pairP_nonneg hb.1 hb.2 hp.1 hp.2, pairP_bd.2⟩
theorem proofR_ge (p n many : Int) (proof : List Int) : -1 ≤ proofR p n many proof := by
  by_cases hc : (0 ≤ p ∧ p ≤ 16777212) ∧ (1 ≤ many ∧ many ≤ 16) ∧ 0 ≤ n ∧ n < many
  · have e1 : proofR p n many proof = prF p n.toNat many.toNat proof := if_pos hc
    rw [e1]
    exact prF_ge proof p _ _ hc.1
  · rw [proofR_no hc]
    omega
theorem proofR_in {p n many : Int} {proof : List Int} (h : 0 ≤ proofR p n many proof) : 0 ≤ p ∧ p ≤ 16777212 := by
  by_cases hc : (0 ≤ p ∧ p ≤ 16777212) ∧ (1 ≤ many ∧ many ≤ 16) ∧ 0 ≤ n ∧ n < many
  · exact hc.1
  · rw [proofR_no hc] at h
    omega
/-- The next print in the round is another one. -/
theorem next_other (p : Int) : p ≠ (p + 1) % 16777213 ∧ 0 ≤ (p + 1) % 16777213 ∧ (p + 1) % 16777213 ≤ 16777212 := by omega
end Go.Proofs.Ytgnliaekngbmbaa
