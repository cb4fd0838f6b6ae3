/- Prints of a tree that is one. -/
import Derived.Test.YtgnliaekngbmbaaLeaves
open Go.RowKit
namespace Go.Proofs.Ytgnliaekngbmbaa
theorem odd0 (w : World) (R p : Nat) (h : Rdr w R p) :
    Calls Try.prog 90 #[.pointer (some ⟨R, 0, none⟩), .int .i64 0] w fun e w' => e = .returned (.bool false) ∧ Rdr w' R p ∧ w.grownBy w' (some R) := by
  go_enter Try.func90, Try.ntmps90
  go_wp2
  go_ret
  exact ⟨rfl, h, ⟨rfl, rfl, rfl, Nat.le_refl _, fun _ _ _ => rfl⟩⟩
def Leaved1 (w : World) (R p : Nat) (e : Ending) (w' : World) : Prop := ∃ (v : Value) (n : Nat) (xs : List Int), e = .returned v ∧ 1 ≤ n ∧ n ≤ 16 ∧ w'.ownsRow w.heap.size 3 1 v n (ints xs) ∧ Rdr w' R (p + 100) ∧ w.grownBy w' (some R)
set_option maxRecDepth 4000 in
set_option maxHeartbeats 800000 in
theorem l20Leaves0 (w : World) (R p : Nat) (h : Rdr w R p) (hp : p ≤ 800000) :
    Calls Try.prog 58 #[.pointer (some ⟨R, 0, none⟩), .int .i64 0] w (Leaved1 w R p) := by
  have hRlt := h.lt
  go_enter Try.func58, Try.ntmps58
  go_wp2_with fail
  refine (l20Print _ R p 0 h (by omega)).mono ?_
  rintro e w1 ⟨y0, rfl, _, _, hR1, hg1⟩
  have hown1 := own_ints1 w1 w.heap.size y0 hg1.size
  go_wp2_with fail
  refine (pick _ R _ 16 (hR1.below ((Below.refl _ _).alloc (Nat.le_refl _) _)) (by omega)).mono ?_
  rintro e w2 ⟨x, rfl, x0, _, x1, hR2, hg2⟩
  obtain ⟨k0, rfl⟩ := Int.eq_ofNat_of_zero_le x0
  have hk0 : k0 ≤ 15 := by have := x1 (by omega); omega
  clear x0 x1
  have hown2 := own_rdr hown1 hg2 hRlt
  have hg2' := grown_trans' hg1 (grown_trans' (World.grownBy_alloc w1 (.cells #[.int .i64 y0] 3) (some R)) hg2)
  clear hg2 hown1
  go_wp2_with fail
  go_loopw [5, 6] (fun v i wr => ∃ (j n : Nat) (xs : List Int), i = .int .i64 (j : Int) ∧ 1 ≤ n ∧ j + n ≤ 16 ∧ wr.ownsRow w.heap.size 3 1 v n (ints xs) ∧ Rdr wr R (p + 1 + 4 * n) ∧ w.grownBy wr (some R)) (fun _ i _ => (intOf i).toNat)
  case atStart => exact ⟨k0, 1, [y0], rfl, by omega, by omega, hown2, hR2.mono (by omega), hg2'⟩
  case round =>
    obtain ⟨j, n, xs, rfl, hn1, hjn, hown, hR, hg⟩ := hrel
    by_cases hj : 0 < j
    · go_wp2_with fail
      refine (l20Print _ R _ 0 hR (by omega)).mono ?_
      rintro e w2 ⟨y, rfl, y0, y1, hR2, hg2⟩
      have hown2 := own_rdr hown hg2 hRlt
      have hG2 : w.heap.size ≤ w2.heap.size := Nat.le_trans hg.size hg2.size
      go_wp2_with (at_builtin; refine wpList_app1 _ rfl (.tmp 16) (.tmp 19) _ rfl w.heap.size 3 1 8 (.int .i64 0) Try.underlying30 int_info rfl (by omega) (by omega) _ n _ rfl hown2 _ rfl (one_int _) rfl (by omega) hG2 ?_; intro v3 w3 hown3 hg3 _)
      have hR3 := rdr_app hR2 hg3 hRlt (fun k e => (hown2.lt k e).1)
      have hg3' := grown_app (grown_trans' hg hg2) hg3 (fun k e => (hown2.lt k e).1)
      rw [show ints xs ++ (#[Value.int .i64 y] : Array Value).toList = ints (xs ++ [y]) from by simp [ints]] at hown3
      go_wp2_with fail
      go_roundw
      case rel => exact ⟨j - 1, n + 1, _, by go_num, by omega, by omega, hown3, hR3.mono (by omega), hg3'⟩
      case measure => simp [intOf]; omega
    · obtain rfl : j = 0 := by omega
      go_wp2_with fail
      refine (odd0 _ R _ hR).mono ?_
      rintro e w2 ⟨rfl, hR2, hg2⟩
      have hown2 := own_rdr hown hg2 hRlt
      go_wp2_with fail
      go_ret
      exact ⟨_, n, xs, rfl, hn1, by omega, hown2, hR2.mono (by omega), grown_trans' hg hg2⟩
end Go.Proofs.Ytgnliaekngbmbaa
