/- What is drawn: texts. -/
import Derived.Test.YtjombaiplnebmaaDoorDraw2
import Derived.Laws.BytesArg
open Go.RowKit
namespace Go.Proofs.YtjombaiplnebmaaDoor
def zs61 : Array Value := madeCells #[.int .u8 0] 61
def z61 : ByteArray := strOfNums (List.replicate 61 0)
theorem z61_size : z61.size = 61 := by unfold z61; rw [strOfNums_size, List.length_replicate]
def Z61 (W : World) (g : Nat) : Prop := ∀ i, i < 61 → W.cell? ⟨g, 0 + i, none⟩ = some (.int .u8 0)
theorem zs61_at : ∀ i, i < 61 → zs61[i]? = some (.int .u8 0) := by
  intro i hi
  unfold zs61 madeCells
  simp [hi, Nat.mod_one]
theorem z61_new (W : World) (t : TypeId) : Z61 (W.alloc (.cells zs61 t)) W.heap.size := by
  intro i hi
  rw [Nat.zero_add, cell_of_row _ _ i zs61 t (0, 0) (heap_alloc_new W _)]
  exact zs61_at i hi
theorem z61_grown {a b : World} {R : Nat} (h : a.grownBy b (some R)) (g : Nat) (hne : g ≠ R) (hlt : g < a.heap.size) : Z61 b g = Z61 a g := by
  unfold Z61
  refine propext ⟨fun H i hi => ?_, fun H i hi => ?_⟩
  · rw [← H i hi]; exact (World.cell?_of_block (w := a) (h.block g hlt (fun e => hne (by injection e)))).symm
  · rw [← H i hi]; exact World.cell?_of_block (w := a) (h.block g hlt (fun e => hne (by injection e)))
theorem cell_grown {a b : World} {R : Nat} (h : a.grownBy b (some R)) (g j : Nat) (hne : g ≠ R) (hlt : g < a.heap.size) : b.cell? ⟨g, j, none⟩ = a.cell? ⟨g, j, none⟩ :=
  World.cell?_of_block (w := a) (h.block g hlt (fun e => hne (by injection e)))
set_option maxHeartbeats 2000000 in
theorem l20Text (w : World) (R p : Nat) (m : Int) (h : Rdr w R p) (hp : p ≤ 900000) :
    Calls Tryd.prog 26 #[.pointer (some ⟨R, 0, none⟩), .int .i64 m] w fun e w' => ∃ s : ByteArray, e = .returned (.string s) ∧ s.size ≤ 61 ∧ Rdr w' R (p + 2) ∧ w.grownBy w' (some R) := by
  have hbi : (Tryd.prog.info? 5).map (fun i => (i.zero, i.size, i.bytes)) = some (some (.int .u8 0), 1, 1) := by kernel_rfl
  obtain ⟨i0, hi0, hz0, hz1, hz2⟩ := info_parts hbi
  have hmk : ∀ W : World, (Instr.makeSlice 22 (.int .i64 61) (.int .i64 61)).run Tryd.prog W = .ok (.slice (some ⟨W.heap.size, 0, none⟩) 61 61) (W.alloc (.cells zs61 5)) := fun W => by
    have hr := run_make (P := Tryd.prog) W 22 5 i0 (.int .u8 0) Tryd.underlying22 hi0 hz0 .i64 .i64 61 61 (by omega) (by omega) (by rw [hz2]; omega) (by omega)
    rw [hz1] at hr
    exact hr
  have hcv : ∀ (W : World) (g : Nat), Z61 W g → (convert 22 9 (.slice (some ⟨g, 0, none⟩) 61 61)).run Tryd.prog W = .ok (.string z61) W := fun W g hg =>
    run_convert_bytes_arg W 22 5 Tryd.underlying22 Tryd.underlying5 g 0 61 61 (List.replicate 61 0) (by simp) (fun i hi => by rw [hg i hi, List.getD_eq_getElem?_getD, List.getElem?_replicate, if_pos hi]; rfl) 9 Tryd.underlying9
  have hn1 := fun W => z61_new W 5
  have hn2 : ∀ W : World, Z61 (W.alloc (.cells zs61 5)).drew W.heap.size := fun W => z61_new W 5
  clear hz2 hz1 hz0 hi0 hbi
  go_enter Tryd.func26, Tryd.ntmps26
  go_wp2_with (go_at_call 55; refine (odd _ R p m h (by omega)).mono ?_; rintro e w1 ⟨b, rfl, hR, hg⟩)
  · have hne1 : w1.heap.size ≠ R := Nat.ne_of_gt hR.lt
    have hne2 : w1.heap.size + 1 ≠ R := by have := hR.lt; omega
    go_region_with (go_at_call 27; refine (pick _ R (p + 1) 3 ?_ (by omega)).mono ?_; (first | exact hR.below (below_drewN _ 1) | exact hR.below ((Below.refl _ _).alloc (Nat.le_refl _) _).drew | exact hR.below (below_two _ _ _).drew); rintro e w2 ⟨x, rfl, x0, _, x1, hR2, hg2⟩; obtain ⟨k, rfl⟩ := Int.eq_ofNat_of_zero_le x0; have hk : k < 3 := by { have := x1 (by omega); omega }; clear x0 x1; have hzz := z61_grown hg2; have hcc := cell_grown hg2)
    all_goals
      have hcase : k = 0 ∨ k = 1 ∨ k = 2 := by omega
      clear hn1 hn2 hmk hcv
      rcases hcase with rfl | rfl | rfl
    all_goals
      go_wp2
      go_ret
      refine ⟨_, rfl, ?_, ?_, ?_⟩
    all_goals first
      | exact hR2
      | exact hR2.below ((Below.refl _ _).alloc (Nat.le_refl _) _)
      | exact hR2.below (below_two _ _ _)
      | exact grown_trans' hg (grown_trans' (grown_below (below_drewN _ 1) _) (grown_trans' hg2 (grown_below (below_two _ _ _) _)))
      | exact grown_trans' hg (grown_trans' (grown_below ((Below.refl _ _).alloc (Nat.le_refl _) _).drew _) (grown_trans' hg2 (World.grownBy_alloc _ _ _)))
      | exact grown_trans' hg (grown_trans' (grown_below (below_two _ _ _).drew _) hg2)
      | decide
      | exact Nat.le_of_eq z61_size
  · refine (pick_tab _ R (p + 1) w1.heap.size 8 _ _ (strB 61) (hR.below ((Below.refl _ _).alloc (Nat.le_refl _) _)) (by omega) (heap_alloc_new w1 _) (Nat.ne_of_gt hR.lt) rfl (by omega) rfl).mono ?_
    rintro e w2 ⟨x, v, rfl, hx, hv, hcell, hR2, hg2⟩
    obtain ⟨s, rfl, hs⟩ := strB_of hv
    go_wp2
    go_ret
    exact ⟨s, rfl, hs, hR2, grown_trans' hg (grown_trans' (World.grownBy_alloc _ _ _) hg2)⟩
end Go.Proofs.YtjombaiplnebmaaDoor
