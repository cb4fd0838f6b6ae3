/- What is drawn: a number for HexText, a text for ReadHex. -/
import Derived.Test.YtfjlocfaibbobaaDoorDraw4
import Derived.Test.YtfjlocfaibbobaaDoorHexS
open Go.RowKit
namespace Go.Proofs.YtfjlocfaibbobaaDoor
set_option maxRecDepth 8000 in
set_option maxHeartbeats 1000000 in
theorem drawHexText (A : Option Addr) (n c : Nat) (xs : List Int) (w : World) (h : Rd w 1 A n (byts xs)) (hc : n ≤ c) (hx : ∀ x ∈ xs, (Lit.int .u8 x).wf = true) :
    Calls Tryd.prog 26 #[.slice A n c] w fun e w' => ∃ m : Int, e = .returned (.int .i64 m) ∧ Below w.heap.size w w' := by
  go_enter Tryd.func26, Tryd.ntmps26
  go_wp2_with (go_at_call 48; refine (l20Open A n c xs _ h hc hx).mono ?_; rintro e w1 ⟨R, rfl, hR, hr, hb⟩)
  refine (pick _ R 0 40 hr (by omega)).mono ?_
  rintro e w2 ⟨x, rfl, x0, _, x1, hR2, hg2⟩
  have x1' := x1 (by omega)
  clear x1
  go_wp2_with fail
  refine (pick _ R 1 256 hR2 (by omega)).mono ?_
  rintro e w3 ⟨y, rfl, y0, _, y1, hR3, hg3⟩
  have y1' := y1 (by omega)
  clear y1
  go_wp2_with fail
  refine (pick _ R 2 256 hR3 (by omega)).mono ?_
  rintro e w4 ⟨z, rfl, z0, _, z1, hR4, hg4⟩
  have z1' := z1 (by omega)
  clear z1
  have q0 : 0 ≤ y * z := Int.mul_nonneg y0 z0
  have q1 : y * z ≤ 65025 := Int.le_trans (Int.mul_le_mul (show y ≤ 255 by omega) (show z ≤ 255 by omega) z0 (by omega)) (by decide)
  have hw1 : wrap64 (y * z) = y * z := by unfold wrap64; omega
  have hw2 : wrap64 (y * z * 250) = y * z * 250 := by unfold wrap64; omega
  have hR5 := hR4.below (below_two w4 (.cells #[.int .i64 x, .int .i64 (y * z * 250), .int .i64 16777212, .int .i64 16777213, .int .i64 (-1)] 3) (.cells #[.int .i64 0, .int .i64 0, .int .i64 1, .int .i64 1, .int .i64 2, .int .i64 3, .int .i64 4] 3))
  have hne1 : w4.heap.size ≠ R := Nat.ne_of_gt hR4.lt
  have hne2 : w4.heap.size + 1 ≠ R := by have := hR4.lt; omega
  have HP : Hid ((#[.int .i64 x, .int .i64 (y * z * 250), .int .i64 16777212, .int .i64 16777213, .int .i64 (-1)] : Array Value).toList.all (intB (-1) 16777213) = true) := Lib.hid (by simp [intB]; omega)
  go_wp2_with fail
  refine (pick_tab _ R 3 (w4.heap.size + 1) 7 _ _ (intB 0 4) hR5 (by omega) (heap_two w4 _ _).2 hne2 rfl (by omega) rfl).mono ?_
  rintro e w5 ⟨j, v, rfl, hj, hv, hcell, hR6, hg5⟩
  obtain ⟨n, rfl, n0, n2⟩ := intB_of hv
  obtain ⟨k, rfl⟩ := Int.eq_ofNat_of_zero_le n0
  obtain ⟨v, hcv, hv'⟩ := tab_at (P := intB (-1) 16777213) (k := k) (grown_heap hg5 (heap_two w4 _ _).1 hne1) HP.out (show k < 5 by omega)
  obtain ⟨m, rfl, _, _⟩ := intB_of hv'
  have hk3 : (k : Int) < 5 := by omega
  clear hv hv' hR5
  go_wp2_with fail
  go_ret
  exact ⟨m, rfl, below_rdr hb hR (grown_trans' hg2 (grown_trans' hg3 (grown_trans' hg4 (grown_trans' (grown_below (below_two _ _ _) _) hg5))))⟩
set_option maxRecDepth 8000 in
set_option maxHeartbeats 1000000 in
theorem drawReadHex (A : Option Addr) (n c : Nat) (xs : List Int) (w : World) (h : Rd w 1 A n (byts xs)) (hc : n ≤ c) (hx : ∀ x ∈ xs, (Lit.int .u8 x).wf = true) :
    Calls Tryd.prog 29 #[.slice A n c] w fun e w' => ∃ s : ByteArray, e = .returned (.string s) ∧ s.size ≤ 7 ∧ Below w.heap.size w w' := by
  go_enter Tryd.func29, Tryd.ntmps29
  go_wp2_with (go_at_call 48; refine (l20Open A n c xs _ h hc hx).mono ?_; rintro e w1 ⟨R, rfl, hR, hr, hb⟩)
  refine (pick _ R 0 256 hr (by omega)).mono ?_
  rintro e w2 ⟨y, rfl, y0, _, y1, hR2, hg2⟩
  have y1' := y1 (by omega)
  clear y1
  go_wp2_with fail
  refine (pick _ R 1 256 hR2 (by omega)).mono ?_
  rintro e w3 ⟨z, rfl, z0, _, z1, hR3, hg3⟩
  have z1' := z1 (by omega)
  clear z1
  have q0 : 0 ≤ y * z := Int.mul_nonneg y0 z0
  have q1 : y * z ≤ 65025 := Int.le_trans (Int.mul_le_mul (show y ≤ 255 by omega) (show z ≤ 255 by omega) z0 (by omega)) (by decide)
  have hw1 : wrap64 (y * z) = y * z := by unfold wrap64; omega
  go_wp2_with (go_at_call 24; refine (specHexText _ _).mono ?_; rintro e w' ⟨rfl, rfl⟩)
  have hs6 := hexT_size (y * z)
  generalize hexT (y * z) = s at *
  refine (odd _ R 2 3 hR3 (by omega)).mono ?_
  rintro e w4 ⟨b, rfl, hR4, hg4⟩
  cases b
  · go_wp2_with fail
    go_ret
    exact ⟨s, rfl, by omega, below_rdr hb hR (grown_trans' hg2 (grown_trans' hg3 hg4))⟩
  · have ht1 : (⟨#[48]⟩ : ByteArray).size + s.size ≤ 7 := by show 1 + s.size ≤ 7; omega
    have ht2 : s.size + (⟨#[32]⟩ : ByteArray).size ≤ 7 := by show s.size + 1 ≤ 7; omega
    go_wp2_with fail
    refine (pick_tab _ R 3 w4.heap.size 9 _ _ (strB 7) (hR4.below ((Below.refl _ _).alloc (Nat.le_refl _) _)) (by omega) (heap_alloc_new w4 _) (Nat.ne_of_gt hR4.lt) rfl (by omega) (by simp [strB]; exact ⟨by decide, by decide, by decide, by decide, by decide, by decide, by decide, ht1, ht2⟩)).mono ?_
    rintro e w5 ⟨x, v, rfl, hx, hv, hcell, hR5, hg5⟩
    obtain ⟨t, rfl, ht⟩ := strB_of hv
    go_wp2_with fail
    go_ret
    exact ⟨t, rfl, ht, below_rdr hb hR (grown_trans' hg2 (grown_trans' hg3 (grown_trans' hg4 (grown_trans' (World.grownBy_alloc _ _ _) hg5))))⟩
end Go.Proofs.YtfjlocfaibbobaaDoor
