/- What is drawn: texts and prints. -/
import Derived.Test.YthoiljgpggldcaaDraw
open Go.RowKit
namespace Go.Proofs.Ythoiljgpggldcaa
def intB (lo hi : Int) : Value → Bool
  | .int .i64 n => decide (lo ≤ n ∧ n ≤ hi)
  | _ => false
theorem intB_of {lo hi : Int} {v : Value} (h : intB lo hi v = true) : ∃ n, v = .int .i64 n ∧ lo ≤ n ∧ n ≤ hi := by
  unfold intB at h
  split at h
  · exact ⟨_, rfl, of_decide_eq_true h⟩
  · cases h
theorem grown_heap {a b : World} {R g : Nat} {o : Obj} (h : a.grownBy b (some R)) (hg : a.heap[g]? = some o) (hne : g ≠ R) : b.heap[g]? = some o :=
  (h.block g (Array.getElem?_eq_some_iff.1 hg).1 (fun e => hne (by injection e))).trans hg
theorem tab_at {w : World} {g k : Nat} {cs : Array Value} {t : TypeId} {P : Value → Bool} (hg : w.heap[g]? = some (.cells cs t (0, 0))) (hP : cs.toList.all P = true) (hk : k < cs.size) : ∃ v, w.cell? ⟨g, k, none⟩ = some v ∧ P v = true := by
  refine ⟨cs[k], ?_, ?_⟩
  · rw [cell_of_row w g k cs t (0, 0) hg]
    exact Array.getElem?_eq_getElem hk
  · rw [List.all_eq_true] at hP
    exact hP _ (Array.mem_toList_iff.2 (Array.getElem_mem hk))
theorem below_two (w : World) (o1 o2 : Obj) : Below w.heap.size w ((w.alloc o1).alloc o2) := ((Below.refl _ _).alloc (Nat.le_refl _) _).alloc (by simp) _
theorem heap_two (w : World) (o1 o2 : Obj) : ((w.alloc o1).alloc o2).heap[w.heap.size]? = some o1 ∧ ((w.alloc o1).alloc o2).heap[w.heap.size + 1]? = some o2 := by
  have h2 := heap_alloc_new (w.alloc o1) o2
  have hs : (w.alloc o1).heap.size = w.heap.size + 1 := by simp
  refine ⟨?_, by rw [hs] at h2; exact h2⟩
  rw [Below.heap_alloc (w.alloc o1) o2 _ (by rw [hs]; omega)]
  exact heap_alloc_new w o1
set_option maxHeartbeats 1000000 in
theorem l20Print (w : World) (R p : Nat) (m : Int) (h : Rdr w R p) (hp : p ≤ 900000) :
    Calls Try.prog 19 #[.pointer (some ⟨R, 0, none⟩), .int .i64 m] w fun e w' => ∃ x : Int, e = .returned (.int .i64 x) ∧ -1 ≤ x ∧ x ≤ 16777213 ∧ Rdr w' R (p + 4) ∧ w.grownBy w' (some R) := by
  go_enter Try.func19, Try.ntmps19
  go_wp2_with (go_at_call 25; refine (odd _ R p m h (by omega)).mono ?_; rintro e w1 ⟨b, rfl, hR, hg⟩)
  · refine (pick_tab _ R (p + 1) w1.heap.size 2 _ _ (intB (-1) 16777213) (hR.below ((Below.refl _ _).alloc (Nat.le_refl _) _)) (by omega) (heap_alloc_new w1 _) (Nat.ne_of_gt hR.lt) rfl (by omega) rfl).mono ?_
    rintro e w2 ⟨x, v, rfl, hx, hv, hcell, hR2, hg2⟩
    obtain ⟨n, rfl, hn0, hn1⟩ := intB_of hv
    go_wp2
    go_ret
    exact ⟨n, rfl, hn0, hn1, hR2.mono (by omega), grown_trans' hg (grown_trans' (World.grownBy_alloc _ _ _) hg2)⟩
  · refine (pick _ R (p + 1) 100 hR (by omega)).mono ?_
    rintro e w2 ⟨x, rfl, x0, _, x1, hR2, hg2⟩
    have x1' := x1 (by omega)
    clear x1
    go_wp2_with fail
    refine (pick _ R (p + 2) 256 hR2 (by omega)).mono ?_
    rintro e w3 ⟨y, rfl, y0, _, y1, hR3, hg3⟩
    have y1' := y1 (by omega)
    clear y1
    have hR4 := hR3.below (below_two w3 (.cells #[.int .i64 x, .int .i64 (y * 65000), .int .i64 16777212] 3) (.cells #[.int .i64 0, .int .i64 0, .int .i64 0, .int .i64 1, .int .i64 1, .int .i64 1, .int .i64 2] 3))
    have hne1 : w3.heap.size ≠ R := Nat.ne_of_gt hR3.lt
    have hne2 : w3.heap.size + 1 ≠ R := by have := hR3.lt; omega
    go_wp2_with fail
    refine (pick_tab _ R (p + 2 + 1) (w3.heap.size + 1) 7 _ _ (intB 0 2) hR4 (by omega) (heap_two w3 _ _).2 hne2 rfl (by omega) rfl).mono ?_
    rintro e w4 ⟨j, v, rfl, hj, hv, hcell, hR5, hg5⟩
    obtain ⟨n, rfl, n0, n2⟩ := intB_of hv
    obtain ⟨k, rfl⟩ := Int.eq_ofNat_of_zero_le n0
    obtain ⟨v, hcv, hv'⟩ := tab_at (P := intB 0 16777213) (k := k) (grown_heap hg5 (heap_two w3 _ _).1 hne1) (by simp [intB]; omega) (show k < 3 by omega)
    obtain ⟨z, rfl, z0, z1⟩ := intB_of hv'
    have hk3 : (k : Int) < 3 := by omega
    clear hv hv' hR4
    go_wp2
    go_ret
    exact ⟨z, rfl, by omega, z1, hR5, grown_trans' hg (grown_trans' hg2 (grown_trans' hg3 (grown_trans' (grown_below (below_two _ _ _) _) hg5)))⟩
end Go.Proofs.Ythoiljgpggldcaa
