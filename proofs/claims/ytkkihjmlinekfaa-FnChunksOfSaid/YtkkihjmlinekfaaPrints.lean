/- What is drawn: lists of prints, long texts, texts of files. -/
import Derived.Test.YtkkihjmlinekfaaDraw4
import Derived.Test.YtkkihjmlinekfaaAppend
import Derived.Test.YtkkihjmlinekfaaInts
open Go.RowKit
namespace Go.Proofs.Ytkkihjmlinekfaa
/-- Behind an append to a row of the call's own: what was there has turned as before. -/
theorem grown_app {w W w' : World} {row vrow : Option Nat} (h : w.grownBy W row) (hg : W.grownBy w' vrow) (hv : ∀ k, vrow = some k → w.heap.size ≤ k) : w.grownBy w' row :=
  ⟨hg.os.trans h.os, hg.tape.trans h.tape, hg.output.trans h.output, Nat.le_trans h.size hg.size, fun i hi hne => (hg.block i (Nat.lt_of_lt_of_le hi h.size) (fun e => by have := hv i e.symm; omega)).trans (h.block i hi hne)⟩
theorem rdr_app {w w' : World} {R p base : Nat} {vrow : Option Nat} (h : Rdr w R p) (hg : w.grownBy w' vrow) (hR : R < base) (hv : ∀ k, vrow = some k → base ≤ k) : Rdr w' R p :=
  h.keep ⟨hg.os, hg.tape, hg.output, hg.size, fun k hk => hg.block k (by have := h.lt; omega) (fun e => by have := hv k e.symm; omega)⟩
theorem own_rdr {w w' : World} {R base n : Nat} {e : TypeId} {v : Value} {xs : List Value} (h : w.ownsRow base e 1 v n xs) (hg : w.grownBy w' (some R)) (hR : R < base) : w'.ownsRow base e 1 v n xs := by
  refine h.kept hg ?_
  cases hv : v.ownBlock with
  | none => exact .inl rfl
  | some k =>
    refine .inr fun e => ?_
    have := (h.lt k hv).1
    injection e with e
    omega
set_option maxHeartbeats 800000 in
theorem l20Long (w : World) (R p : Nat) (m : Int) (h : Rdr w R p) (hp : p ≤ 800000) :
    Calls Try.prog 78 #[.pointer (some ⟨R, 0, none⟩), .int .i64 m] w fun e w' => ∃ s : ByteArray, e = .returned (.string s) ∧ s.size ≤ 61 ∧ Rdr w' R (p + 100) ∧ w.grownBy w' (some R) := by
  go_enter Try.func78, Try.ntmps78
  go_wp2_with fail
  refine (pick _ R p 20 h (by omega)).mono ?_
  rintro e w1 ⟨x, rfl, x0, _, x1, hR1, hg1⟩
  obtain ⟨k0, rfl⟩ := Int.eq_ofNat_of_zero_le x0
  have hk0 : k0 ≤ 19 := by have := x1 (by omega); omega
  clear x0 x1
  go_wp2_with fail
  go_loopw [5, 6] (fun v i wr => ∃ (j n : Nat) (s : ByteArray), v = .string s ∧ i = .int .i64 (j : Int) ∧ j + n ≤ 19 ∧ s.size ≤ 2 * n ∧ Rdr wr R (p + 1 + n) ∧ w.grownBy wr (some R)) (fun _ i _ => (intOf i).toNat)
  case atStart => exact ⟨k0, 0, _, rfl, rfl, by omega, by decide, hR1, hg1⟩
  case round =>
    obtain ⟨j, n, s, rfl, rfl, hjn, hs, hR, hg⟩ := hrel
    by_cases hj : 0 < j
    · go_wp2_with fail
      refine (pick_tab _ R (p + 1 + n) wr.heap.size 6 _ _ (strB 2) (hR.below ((Below.refl _ _).alloc (Nat.le_refl _) _)) (by omega) (heap_alloc_new wr _) (Nat.ne_of_gt hR.lt) rfl (by omega) rfl).mono ?_
      rintro e w2 ⟨x, v, rfl, hx, hv, hcell, hR2, hg2⟩
      obtain ⟨t, rfl, ht⟩ := strB_of hv
      go_wp2_with fail
      go_roundw
      case rel => exact ⟨j - 1, n + 1, _, rfl, by go_num, by omega, by rw [ByteArray.size_append]; omega, hR2.mono (by omega), grown_trans' hg (grown_trans' (World.grownBy_alloc _ _ _) hg2)⟩
      case measure => simp [intOf]; omega
    · obtain rfl : j = 0 := by omega
      go_wp2_with fail
      refine (odd _ R _ m hR (by omega)).mono ?_
      rintro e w2 ⟨b, rfl, hR2, hg2⟩
      cases b
      · go_wp2_with fail
        go_ret
        exact ⟨s, rfl, by omega, hR2.mono (by omega), grown_trans' hg hg2⟩
      · go_wp2_with fail
        refine (l20Text _ R _ 1 hR2 (by omega)).mono ?_
        rintro e w3 ⟨t, rfl, ht, hR3, hg3⟩
        go_wp2_with fail
        go_ret
        exact ⟨t, rfl, ht, hR3.mono (by omega), grown_trans' hg (grown_trans' hg2 hg3)⟩
end Go.Proofs.Ytkkihjmlinekfaa
