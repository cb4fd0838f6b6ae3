/- What is drawn: texts and prints. -/
import Derived.Test.YtgnliaekngbmbaaDoorDraw
open Go.RowKit
namespace Go.Proofs.YtgnliaekngbmbaaDoor
def intB (lo hi : Int) : Value → Bool
  | .int .i64 n => decide (lo ≤ n ∧ n ≤ hi)
  | _ => false
theorem intB_of {lo hi : Int} {v : Value} (h : intB lo hi v = true) : ∃ n, v = .int .i64 n ∧ lo ≤ n ∧ n ≤ hi := by
  unfold intB at h
  split at h
  · exact ⟨_, rfl, of_decide_eq_true h⟩
  · cases h
theorem grown_heap {a b : World} {R g : Nat} {o : Obj} (h : a.grownBy b (some R)) (hg : a.heap[g]? = some o) (hne : g ≠ R) : b.heap[g]? = some o :=
  (h.block g (Array.getElem?_eq_some_iff.1 hg).1 (fun e => hne (by injection e))).trans hg
theorem tab_at {w : World} {g k : Nat} {cs : Array Value} {t : TypeId} {P : Value → Bool} (hg : w.heap[g]? = some (.cells cs t (0, 0))) (hP : cs.toList.all P = true) (hk : k < cs.size) : ∃ v, w.cell? ⟨g, k, none⟩ = some v ∧ P v = true := by
  refine ⟨cs[k], ?_, ?_⟩
  · rw [cell_of_row w g k cs t (0, 0) hg]
    exact Array.getElem?_eq_getElem hk
  · rw [List.all_eq_true] at hP
    exact hP _ (Array.mem_toList_iff.2 (Array.getElem_mem hk))
theorem below_two (w : World) (o1 o2 : Obj) : Below w.heap.size w ((w.alloc o1).alloc o2) := ((Below.refl _ _).alloc (Nat.le_refl _) _).alloc (by simp) _
theorem heap_two (w : World) (o1 o2 : Obj) : ((w.alloc o1).alloc o2).heap[w.heap.size]? = some o1 ∧ ((w.alloc o1).alloc o2).heap[w.heap.size + 1]? = some o2 := by
  have h2 := heap_alloc_new (w.alloc o1) o2
  have hs : (w.alloc o1).heap.size = w.heap.size + 1 := by simp
  refine ⟨?_, by rw [hs] at h2; exact h2⟩
  rw [Below.heap_alloc (w.alloc o1) o2 _ (by rw [hs]; omega)]
  exact heap_alloc_new w o1
end Go.Proofs.YtgnliaekngbmbaaDoor
