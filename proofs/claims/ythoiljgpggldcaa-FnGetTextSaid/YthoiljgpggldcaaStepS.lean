/- What is drawn: a path, a content, a write or a drop. -/
import Derived.Test.YthoiljgpggldcaaDropA
import Derived.Test.YthoiljgpggldcaaM7
import Derived.Test.YthoiljgpggldcaaM8
open Go.RowKit
namespace Go.Proofs.Ythoiljgpggldcaa
def pathB : Value → Bool
  | .string s => decide (s.size ≤ 9) && (decide (s = slash) || ((partsP s).2 && (decide ((partsP s).1.length ≠ 0) && (partsP s).1.all fun p => decide (p.size ≤ 100))))
  | _ => false
def PathW (s : ByteArray) : Prop := s.size ≤ 9 ∧ (s = slash ∨ (s ≠ slash ∧ (partsP s).2 = true ∧ (partsP s).1.length ≠ 0 ∧ ∀ p ∈ (partsP s).1, p.size ≤ maxLen))
theorem pathB_of {v : Value} (h : pathB v = true) : ∃ s : ByteArray, v = .string s ∧ PathW s := by
  unfold pathB at h
  split at h
  · rename_i s
    rw [Bool.and_eq_true, Bool.or_eq_true, Bool.and_eq_true, Bool.and_eq_true] at h
    refine ⟨s, rfl, of_decide_eq_true h.1, ?_⟩
    rcases h.2 with h2 | h2
    · exact .inl (of_decide_eq_true h2)
    · have hl := of_decide_eq_true h2.2.1
      refine .inr ⟨fun e => hl (by rw [e]; rfl), h2.1, hl, fun p hp => ?_⟩
      have := of_decide_eq_true (List.all_eq_true.1 h2.2.2 p hp)
      unfold maxLen
      omega
  · cases h
def conB : Value → Bool
  | .string s => decide (s.size ≤ 9) && contentV (bts s)
  | _ => false
theorem conB_of {v : Value} (h : conB v = true) : ∃ s : ByteArray, v = .string s ∧ s.size ≤ 9 ∧ contentV (bts s) = true := by
  unfold conB at h
  split at h
  · rename_i s
    rw [Bool.and_eq_true] at h
    exact ⟨s, rfl, of_decide_eq_true h.1, h.2⟩
  · cases h
theorem odd0 (w : World) (R : Nat) : Calls Try.prog 25 #[.pointer (some ⟨R, 0, none⟩), .int .i64 0] w fun e w' => e = .returned (.bool false) ∧ w = w' := by
  go_enter Try.func25, Try.ntmps25
  go_wp2
  go_ret
  exact ⟨rfl, rfl⟩
set_option maxRecDepth 8000 in
set_option maxHeartbeats 1000000 in
theorem l20Path0 (w : World) (R p : Nat) (h : Rdr w R p) (hp : p ≤ 900000) :
    Calls Try.prog 31 #[.pointer (some ⟨R, 0, none⟩), .int .i64 0] w fun e w' => ∃ s : ByteArray, e = .returned (.string s) ∧ PathW s ∧ Rdr w' R (p + 1) ∧ w.grownBy w' (some R) := by
  go_enter Try.func31, Try.ntmps31
  go_wp2_with fail
  refine (odd0 w R).mono ?_
  rintro e w1 ⟨rfl, rfl⟩
  go_wp2_with fail
  have hne1 : w.heap.size ≠ R := Nat.ne_of_gt h.lt
  have hne2 : w.heap.size + 1 ≠ R := by have := h.lt; omega
  refine (pick_tab _ R p (w.heap.size + 1) 13 _ _ (intB 0 7) (h.below (below_two w _ _)) (by omega) (heap_two w _ _).2 hne2 rfl (by omega) rfl).mono ?_
  rintro e w2 ⟨j, v, rfl, hj, hv, hcell, hR2, hg2⟩
  obtain ⟨n, rfl, n0, n7⟩ := intB_of hv
  obtain ⟨k, rfl⟩ := Int.eq_ofNat_of_zero_le n0
  have hk8 : (k : Int) < 8 := by omega
  obtain ⟨v, hcv, hv'⟩ := tab_at (P := pathB) (k := k) (grown_heap hg2 (heap_two w _ _).1 hne1) (by kernel_rfl) (show k < 8 by omega)
  obtain ⟨s, rfl, hs⟩ := pathB_of hv'
  have HS := Lib.hid hs
  clear hv hv' hs
  go_wp2_with fail
  go_ret
  exact ⟨s, rfl, HS.out, hR2, grown_trans' (grown_below (below_two _ _ _) _) hg2⟩
theorem l20ContentV (w : World) (R p : Nat) (h : Rdr w R p) (hp : p ≤ 900000) :
    Calls Try.prog 34 #[.pointer (some ⟨R, 0, none⟩)] w fun e w' => ∃ s : ByteArray, e = .returned (.string s) ∧ (s.size ≤ 9 ∧ contentV (bts s) = true) ∧ Rdr w' R (p + 1) ∧ w.grownBy w' (some R) := by
  go_enter Try.func34, Try.ntmps34
  go_wp2_with fail
  refine (pick_tab _ R p w.heap.size 4 _ _ conB (h.below ((Below.refl _ _).alloc (Nat.le_refl _) _)) (by omega) (heap_alloc_new w _) (Nat.ne_of_gt h.lt) rfl (by omega) (by kernel_rfl)).mono ?_
  rintro e w2 ⟨x, v, rfl, hx, hv, hcell, hR2, hg2⟩
  obtain ⟨s, rfl, hs⟩ := conB_of hv
  have HS := Lib.hid hs
  clear hs hv
  go_wp2_with fail
  go_ret
  exact ⟨s, rfl, HS.out, hR2, grown_trans' (World.grownBy_alloc _ _ _) hg2⟩
def Stepped (w : World) (R p base : Nat) (e : Ending) (w' : World) : Prop := ∃ v' ys q ok, e = .returned (.tuple #[v', .int .i64 q, .bool ok]) ∧ Good ys ∧ St w' base v' ys ∧ Rdr w' R (p + 3) ∧ w.grownBy w' (some R)
theorem stepped_of {w w1 w' : World} {R p q base : Nat} {e : Ending} (h : Stored w1 base e w') (hr : Rdr w1 R q) (hq : q ≤ p + 3) (hg : w.grownBy w1 (some R)) : Stepped w R p base e w' := by
  obtain ⟨v, ys, x, ok, rfl, hy, hs, hb⟩ := h
  exact ⟨v, ys, x, ok, rfl, hy, hs, (hr.below hb).mono hq, grown_trans' hg (grown_below hb _)⟩
set_option maxRecDepth 8000 in
set_option maxHeartbeats 1000000 in
theorem l20Step (base : Nat) (v : Value) (root : Int) (xs : List (Int × ByteArray)) (w : World) (R p : Nat) (hr : Rdr w R p) (hp : p ≤ 800000) (h : St w base v xs) (hg : Good xs) (hRb : R < base) :
    Calls Try.prog 24 #[.pointer (some ⟨R, 0, none⟩), v, .int .i64 root] w (Stepped w R p base) := by
  have HSt := Lib.hid h
  have HG := Lib.hid hg
  clear h hg
  go_enter Try.func24, Try.ntmps24
  go_wp2_with fail
  refine (l20Path0 w R p hr (by omega)).mono ?_
  rintro e w1 ⟨s, rfl, ⟨hs9, hsp⟩, hR1, hg1⟩
  have HS1 := Lib.hid (HSt.out.grown hg1 hRb)
  rcases hsp with hsl | ⟨hne, hp1, hp2, hp3⟩
  · have he := slash_yes s hsl
    clear hsl
    go_wp2_with fail
    refine bodyPost_ret (v := .tuple #[v, .int .i64 root, .bool false]) (by simp [results, Try.results24, go_sem]) rfl ?_
    exact ⟨v, xs, root, false, rfl, HG.out, HS1.out, hR1.mono (by omega), hg1⟩
  · have he := slash_no hne
    have HP1 := Lib.hid hp1
    have HP2 := Lib.hid hp2
    have HP3 := Lib.hid hp3
    clear hp1 hp2 hp3 hne
    go_wp2_with fail
    refine (pick w1 R (p + 1) 5 hR1 (by omega)).mono ?_
    rintro e w2 ⟨x, rfl, x0, _, x1, hR2, hg2⟩
    have HS2 := Lib.hid (HS1.out.grown hg2 hRb)
    have hg12 := grown_trans' hg1 hg2
    clear x0 x1
    by_cases hx : x = 0
    · have hx1 : (x == 0) = true := by rw [hx]; rfl
      clear hx
      go_wp2_with fail
      refine (specDropAt base v root s xs w2 HS2.out HG.out (by omega) HP1.out HP2.out HP3.out).mono ?_
      intro e w3 hst
      have HF := Lib.hid (stepped_of (p := p) hst hR2 (by omega) hg12)
      obtain ⟨v3, ys, q, ok, rfl, _⟩ := hst
      go_wp2_with fail
      refine bodyPost_ret (v := .tuple #[v3, .int .i64 q, .bool ok]) (by simp [results, Try.results24, go_sem]) rfl ?_
      exact HF.out
    · have hx1 : (x == 0) = false := by simpa using hx
      clear hx
      go_wp2_with fail
      refine (l20ContentV w2 R _ hR2 (by omega)).mono ?_
      rintro e w3 ⟨t, rfl, ⟨ht, htc⟩, hR3, hg3⟩
      have HS3 := Lib.hid (HS2.out.grown hg3 hRb)
      have HTC := Lib.hid htc
      clear htc
      go_wp2_with fail
      refine (specWriteAt base v root s t xs w3 HS3.out HG.out (by omega) HP1.out HP2.out HP3.out (by omega) HTC.out).mono ?_
      intro e w4 hst
      have HF := Lib.hid (stepped_of (p := p) hst hR3 (by omega) (grown_trans' hg12 hg3))
      obtain ⟨v3, ys, q, ok, rfl, _⟩ := hst
      go_wp2_with fail
      refine bodyPost_ret (v := .tuple #[v3, .int .i64 q, .bool ok]) (by simp [results, Try.results24, go_sem]) rfl ?_
      exact HF.out
end Go.Proofs.Ythoiljgpggldcaa
