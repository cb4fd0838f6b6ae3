/- What is drawn: entries for FolderText, a text for ReadFolder. -/
import Derived.Test.YtfjlocfaibbobaaDoorDrawE
import Derived.Test.YtfjlocfaibbobaaDoorFolder
open Go.RowKit
namespace Go.Proofs.YtfjlocfaibbobaaDoor
theorem drawFolderText (A : Option Addr) (n c : Nat) (xs : List Int) (w : World) (h : Rd w 1 A n (byts xs)) (hc : n ≤ c) (hx : ∀ x ∈ xs, (Lit.int .u8 x).wf = true) :
    Calls Tryd.prog 35 #[.slice A n c] w (DrawnEs w) := by
  go_enter Tryd.func35, Tryd.ntmps35
  go_wp2_with (go_at_call 48; refine (l20Open A n c xs _ h hc hx).mono ?_; rintro e w1 ⟨R, rfl, hR, hr, hb⟩)
  refine (l20Entries _ R _ 6 hr (by omega)).mono ?_
  rintro e w2 ⟨v, k, es, rfl, hk, hs, hown, hR2, hg2⟩
  go_wp2_with fail
  go_ret
  exact ⟨v, k, es, rfl, hk, hs, own_base hown hb.size, below_rdr hb hR hg2⟩
set_option maxRecDepth 8000 in
set_option maxHeartbeats 1000000 in
theorem drawReadFolder (A : Option Addr) (n c : Nat) (xs : List Int) (w : World) (h : Rd w 1 A n (byts xs)) (hc : n ≤ c) (hx : ∀ x ∈ xs, (Lit.int .u8 x).wf = true) :
    Calls Tryd.prog 43 #[.slice A n c] w fun e w' => ∃ s : ByteArray, e = .returned (.string s) ∧ s.size ≤ 61 ∧ Below w.heap.size w w' := by
  go_enter Tryd.func43, Tryd.ntmps43
  go_wp2_with (go_at_call 48; refine (l20Open A n c xs _ h hc hx).mono ?_; rintro e w1 ⟨R, rfl, hR, hr, hb⟩)
  refine (l20Entries _ R _ 0 hr (by omega)).mono ?_
  rintro e w2 ⟨v, k, es, rfl, hk, hs, hown, hR2, hg2⟩
  obtain ⟨A2, c2, rfl, _⟩ := own_slice hown
  have HX : Hid (∀ x ∈ es, x.1.size ≤ maxLen) := Lib.hid (fun x hx => Nat.le_trans (hs x hx) (by unfold maxLen; omega))
  go_wp2_with fail
  refine (specFolderText _ _ _ es _ (Rd.own hown) HX.out (by omega)).mono ?_
  rintro e w3 ⟨rfl, k3, rfl⟩
  have hs60 := folderT_size es
  generalize folderT es = s at *
  have hR3 : Rdr (w2.drewN k3) R (0 + 100) := hR2.below (below_drewN _ _)
  go_wp2_with fail
  refine (odd _ R _ 3 hR3 (by omega)).mono ?_
  rintro e w4 ⟨b, rfl, hR4, hg4⟩
  have hg24 := grown_trans' hg2 (grown_trans' (grown_below (below_drewN w2 k3) (some R)) hg4)
  cases b
  · go_wp2_with fail
    go_ret
    exact ⟨s, rfl, by omega, below_rdr hb hR hg24⟩
  · have ht1 : s.size + (⟨#[59]⟩ : ByteArray).size ≤ 61 := by show s.size + 1 ≤ 61; omega
    have ht2 : s.size + (⟨#[122]⟩ : ByteArray).size ≤ 61 := by show s.size + 1 ≤ 61; omega
    go_wp2_with fail
    refine (pick_tab _ R _ w4.heap.size 12 _ _ (strB 61) (hR4.below ((Below.refl _ _).alloc (Nat.le_refl _) _)) (by omega) (heap_alloc_new w4 _) (Nat.ne_of_gt hR4.lt) rfl (by omega) (by simp [strB]; exact ⟨by decide, by decide, by decide, by decide, by decide, by decide, by decide, by decide, by decide, by decide, ht1, ht2⟩)).mono ?_
    rintro e w5 ⟨x, v, rfl, hx, hv, hcell, hR5, hg5⟩
    obtain ⟨t, rfl, ht⟩ := strB_of hv
    go_wp2_with fail
    go_ret
    exact ⟨t, rfl, ht, below_rdr hb hR (grown_trans' hg24 (grown_trans' (World.grownBy_alloc _ _ _) hg5))⟩
end Go.Proofs.YtfjlocfaibbobaaDoor
