/- What is drawn for the laws on entries; and plain words: the first one left out, and twice. -/
import Derived.Test.YtjombaiplnebmaaDoorL20E
open Go.RowKit
namespace Go.Proofs.YtjombaiplnebmaaDoor
def DrawnEs (w : World) (e : Ending) (w' : World) : Prop := ∃ (v : Value) (n : Nat) (es : List (ByteArray × Int)), e = .returned v ∧ n ≤ 5 ∧ (∀ x ∈ es, x.1.size ≤ 9) ∧ w'.ownsRow w.heap.size 58 2 v n (ens es) ∧ Below w.heap.size w w'
section
variable {α : Type} {ok : α → Bool} {lt : α → α → Bool} {m : Nat} {x : α} {r : List α}
theorem good_tail (h : goodAll ok lt m (x :: r) = true) : goodAll ok lt m r = true := by
  have hl := goodAll_len h
  rw [List.length_cons] at hl
  rw [goodAll_ok (fun j hj => ?_)]
  · exact decide_eq_true (by omega)
  · have h1 := goodAll_at h (show j + 1 < (x :: r).length by rw [List.length_cons]; omega)
    have hy : (x :: r)[j + 1]? = some r[j] := by rw [List.getElem?_cons_succ]; exact List.getElem?_eq_getElem hj
    have hok := goodAt_ok h1 hy
    cases j with
    | zero => exact goodAt_zero (List.getElem?_eq_getElem hj) hok
    | succ j =>
      rw [goodAt_succ (y := r[j]) (List.getElem?_eq_getElem hj) (List.getElem?_eq_getElem (by omega)) hok]
      rw [goodAt_succ (y := r[j]) hy (by rw [List.getElem?_cons_succ]; exact List.getElem?_eq_getElem (by omega)) hok] at h1
      exact h1
theorem good_twice (hir : lt x x = false) : goodAll ok lt m (x :: x :: r) = false := by
  refine goodAll_bad (k := 1) (by rw [List.length_cons, List.length_cons]; omega) ?_
  cases ho : ok x
  · exact goodAt_bad (x := x) rfl ho
  · rw [goodAt_succ (x := x) (y := x) rfl rfl ho]
    exact hir
end
theorem ltB_self (a : ByteArray) : ltB a a = false := by
  have := bytesLess_total a.toList a.toList
  unfold ltB
  rw [beq_self_eq_true, Bool.or_true] at this
  simpa using this.symm
theorem own_at2 {w : World} {base n : Nat} {e : TypeId} {v : Value} {xs : List Value} (h : w.ownsRow base e 2 v n xs) (hn : 0 < n) : ∃ g cap, v = .slice (some ⟨g, 0, none⟩) n cap ∧ base ≤ g ∧ n ≤ cap := by
  rcases h.2 with ⟨_, h0⟩ | ⟨g, cap, _, rfl, hg, _, hc, _⟩
  · omega
  · exact ⟨g, cap, rfl, hg, hc⟩
theorem own_en1 (w : World) (s : ByteArray) (y : Int) : (w.alloc (.cells #[.string s, .int .i64 y] 58)).ownsRow w.heap.size 58 2 (.slice (some ⟨w.heap.size, 0, none⟩) 1 1) 1 (ens [(s, y)]) :=
  ⟨by simp [ens], .inr ⟨w.heap.size, 1, #[.string s, .int .i64 y], rfl, Nat.le_refl _, heap_alloc_new w _, Nat.le_refl _, by unfold maxLen; omega, by simp, by simp [ens]⟩⟩
end Go.Proofs.YtjombaiplnebmaaDoor
