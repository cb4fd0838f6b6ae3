/- What is drawn: a text for TextKind. -/
import Derived.Test.YtjombaiplnebmaaDoorDrawFo
import Derived.Test.YtjombaiplnebmaaDoorDraw3
import Derived.Test.YtjombaiplnebmaaDoorFiles
open Go.RowKit
namespace Go.Proofs.YtjombaiplnebmaaDoor
theorem l20ContentK (w : World) (R p : Nat) (h : Rdr w R p) (hp : p ≤ 900000) :
    Calls Tryd.prog 25 #[.pointer (some ⟨R, 0, none⟩)] w fun e w' => ∃ s : ByteArray, e = .returned (.string s) ∧ s.size ≤ 9 ∧ Rdr w' R (p + 1) ∧ w.grownBy w' (some R) := by
  go_enter Tryd.func25, Tryd.ntmps25
  go_wp2_with fail
  refine (pick_tab _ R p w.heap.size 4 _ _ (strB 9) (h.below ((Below.refl _ _).alloc (Nat.le_refl _) _)) (by omega) (heap_alloc_new w _) (Nat.ne_of_gt h.lt) rfl (by omega) rfl).mono ?_
  rintro e w2 ⟨x, v, rfl, hx, hv, hcell, hR2, hg2⟩
  obtain ⟨s, rfl, hs⟩ := strB_of hv
  go_wp2_with fail
  go_ret
  exact ⟨s, rfl, hs, hR2, grown_trans' (World.grownBy_alloc _ _ _) hg2⟩
set_option maxRecDepth 8000 in
set_option maxHeartbeats 1000000 in
theorem drawTextKind (A : Option Addr) (n c : Nat) (xs : List Int) (w : World) (h : Rd w 1 A n (byts xs)) (hc : n ≤ c) (hx : ∀ x ∈ xs, (Lit.int .u8 x).wf = true) :
    Calls Tryd.prog 6 #[.slice A n c] w fun e w' => ∃ s : ByteArray, e = .returned (.string s) ∧ s.size ≤ 100 ∧ Below w.heap.size w w' := by
  go_enter Tryd.func6, Tryd.ntmps6
  go_wp2_with (go_at_call 21; refine (l20Open A n c xs _ h hc hx).mono ?_; rintro e w1 ⟨R, rfl, hR, hr, hb⟩)
  refine (l20Entries _ R _ 3 hr (by omega)).mono ?_
  rintro e w2 ⟨v, k, es, rfl, hk, hs, hown, hR2, hg2⟩
  obtain ⟨A2, c2, rfl, _⟩ := own_slice hown
  have HX : Hid (∀ x ∈ es, x.1.size ≤ maxLen) := Lib.hid (fun x hx => Nat.le_trans (hs x hx) (by unfold maxLen; omega))
  go_wp2_with fail
  refine (specFolderText _ _ _ es _ (Rd.own hown) HX.out (by omega)).mono ?_
  rintro e w3 ⟨rfl, k3, hw3⟩
  have hs60 := folderT_size es
  generalize folderT es = s1 at *
  have hR3 : Rdr w3 R (0 + 100) := by rw [hw3]; exact hR2.below (below_drewN _ _)
  have hg23 : w1.grownBy w3 (some R) := by rw [hw3]; exact grown_trans' hg2 (grown_below (below_drewN w2 k3) (some R))
  clear hw3
  go_wp2_with fail
  refine (l20ContentK _ R _ hR3 (by omega)).mono ?_
  rintro e w4 ⟨s2, rfl, hs2, hR4, hg4⟩
  have hf10 : (fileT s2).size ≤ 10 := by
    unfold fileT
    split
    · rw [ByteArray.size_append]
      show 1 + s2.size ≤ 10
      omega
    · decide
  go_wp2_with (go_at_call 24; refine (specFileText s2 _ (by unfold maxLen; omega)).mono ?_; rintro e w' ⟨rfl, rfl⟩)
  generalize fileT s2 = s3 at *
  refine (l20Text _ R _ 6 hR4 (by omega)).mono ?_
  rintro e w5 ⟨s4, rfl, hs4, hR5, hg5⟩
  have hg25 := grown_trans' hg23 (grown_trans' hg4 hg5)
  have ht1 : s1.size ≤ 100 := by omega
  have ht3 : s3.size ≤ 100 := by omega
  have ht4 : s4.size ≤ 100 := by omega
  go_wp2_with fail
  refine (pick_tab _ R _ w5.heap.size 4 _ _ (strB 100) (hR5.below ((Below.refl _ _).alloc (Nat.le_refl _) _)) (by omega) (heap_alloc_new w5 _) (Nat.ne_of_gt hR5.lt) rfl (by omega) (by simp [strB, ht1, ht3, ht4]; decide)).mono ?_
  rintro e w6 ⟨x, v, rfl, hx, hv, hcell, hR6, hg6⟩
  obtain ⟨t, rfl, ht⟩ := strB_of hv
  go_wp2_with fail
  go_ret
  exact ⟨t, rfl, ht, below_rdr hb hR (grown_trans' hg25 (grown_trans' (World.grownBy_alloc _ _ _) hg6))⟩
end Go.Proofs.YtjombaiplnebmaaDoor
