/- What is drawn: texts of files to be read. -/
import Derived.Test.YtnbdhmjgckomcaaDraw4
open Go.RowKit
namespace Go.Proofs.Ytnbdhmjgckomcaa
theorem Rdr.alloc' {w : World} {R p : Nat} (h : Rdr w R p) (o : Obj) : Rdr (w.alloc o) R p := h.below ((Below.refl _ _).alloc (Nat.le_refl _) _)
theorem Rdr.drew' {w : World} {R p : Nat} (h : Rdr w R p) : Rdr w.drew R p := h.below (below_drewN _ 1)
theorem gr_alloc {a b : World} {row : Option Nat} (h : a.grownBy b row) (o : Obj) : a.grownBy (b.alloc o) row := grown_trans' h (World.grownBy_alloc _ _ _)
theorem gr_drew {a b : World} {row : Option Nat} (h : a.grownBy b row) : a.grownBy b.drew row := grown_drewN h 1
theorem gr_refl (a : World) (row : Option Nat) : a.grownBy a row := grown_below (Below.refl _ _) row
/-- The cells of a row that stands: they stay. -/
theorem cells_stay {a b : World} {R g : Nat} {cs : Array Value} {t : TypeId} {z : Nat × Nat} (h : a.grownBy b (some R)) (hg : a.heap[g]? = some (.cells cs t z)) (hne : g ≠ R) : b.heap[g]? = some (.cells cs t z) := by
  rw [h.block g (Array.getElem?_eq_some_iff.1 hg).1 (fun e => hne (by injection e))]
  exact hg
theorem elem3 (k : Nat) (hk : k < 3) : ∃ S : ByteArray, S.size ≤ 1 ∧ [Value.string ⟨#[]⟩, Value.string ⟨#[102]⟩, Value.string ⟨#[]⟩][k] = Value.string S := by
  have h : k = 0 ∨ k = 1 ∨ k = 2 := by omega
  rcases h with rfl | rfl | rfl
  · exact ⟨_, Nat.zero_le _, rfl⟩
  · exact ⟨_, Nat.le_refl _, rfl⟩
  · exact ⟨_, Nat.zero_le _, rfl⟩
theorem gsize_lt {a b : World} {o : Obj} {row : Option Nat} (h : (a.alloc o).grownBy b row) : a.heap.size < b.heap.size := by
  have := h.size
  simp at this
  omega
theorem gsize_lt' {a b : World} {o : Obj} {row : Option Nat} (h : (a.alloc o).drew.grownBy b row) : a.heap.size < b.heap.size := by
  have : (a.alloc o).heap.size ≤ b.heap.size := h.size
  simp at this
  omega
set_option maxHeartbeats 1600000 in
theorem drawReadFile (A : Option Addr) (n c : Nat) (xs : List Int) (w : World) (h : Rd w 1 A n (byts xs)) (hc : n ≤ c) (hx : ∀ x ∈ xs, (Lit.int .u8 x).wf = true) :
    Calls Try.prog 46 #[.slice A n c] w fun e w' => ∃ s : ByteArray, e = .returned (.string s) ∧ s.size ≤ 62 ∧ Below w.heap.size w w' := by
  go_enter Try.func46, Try.ntmps46
  go_wp2_with (go_at_call 59; refine (l20Open A n c xs _ h hc hx).mono ?_; rintro e w1 ⟨R, rfl, hR, hr, hb⟩)
  have hlt := hr.lt
  have hne1 : w1.heap.size ≠ R := Nat.ne_of_gt hlt
  have hne2 : w1.heap.size + 1 ≠ R := by omega
  go_region_with (first | (go_at_call 70; refine (pick _ R 0 3 ?_ (by omega)).mono ?_; (repeat (first | exact hr | refine Rdr.drew' ?_ | refine Rdr.alloc' ?_ _)); rintro e w2 ⟨x, rfl, x0, _, x1, hR2, hg2⟩; obtain ⟨k, rfl⟩ := Int.eq_ofNat_of_zero_le x0; have hk : k < 3 := by { have := x1 (by omega); omega }; clear x0 x1; obtain ⟨S, hS, hel⟩ := elem3 k hk; have hcc := cell_grown hg2; have hne3 : w2.heap.size ≠ R := Nat.ne_of_gt hR2.lt; (first | have hs2 := gsize_lt hg2 | have hs2 := gsize_lt' hg2 | skip)) | (go_at_call 58; refine (l20Text _ R 1 _ ?_ (by omega)).mono ?_; (repeat (first | exact hR2 | refine Rdr.drew' ?_ | refine Rdr.alloc' ?_ _)); rintro e w3 ⟨s, rfl, hs, hR3, hg3⟩; have hcd := cell_grown hg3))
  all_goals
    go_wp2
    go_ret
    refine ⟨_, rfl, by rw [ByteArray.size_append]; omega, below_rdr hb hR ?_⟩
    repeat (first | exact gr_refl _ _ | exact hg2 | refine gr_drew ?_ | refine gr_alloc ?_ _ | refine grown_trans' ?_ hg3 | refine grown_trans' ?_ hg2)
end Go.Proofs.Ytnbdhmjgckomcaa
