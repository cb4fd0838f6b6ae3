/- Contract of toPieceS, with the word that the row has a block. -/
import Derived.Test.YtjombaiplnebmaaDoorPcs
open Go.RowKit
namespace Go.Proofs.YtjombaiplnebmaaDoor
set_option maxRecDepth 4000 in
set_option maxHeartbeats 800000 in
theorem toPieceB (A : Option Addr) (n c : Nat) (xs : List (Int × ByteArray)) (w : World) (h : Rd w 2 A n (pcs xs)) (hn : n ≤ 4194304) :
    Calls Tryd.prog 14 #[.slice A n c] w fun e w' => ∃ v, e = .returned v ∧ w'.ownsRow w.heap.size 63 2 v n (pcs xs) ∧ Below w.heap.size w w' ∧ v.ownBlock ≠ none := by
  obtain ⟨i0, hi0, hz0, hz1, hz2⟩ := info_parts pcs_info
  have hxl := Lib.hid h.pcLen
  go_enter Tryd.func14, Tryd.ntmps14
  go_wp2_with (at_make; refine wpList_make_full _ rfl _ _ 34 rfl w.heap.size 63 i0 (.agg #[.int .i64 0, .string ⟨#[]⟩]) 2 Tryd.underlying34 hi0 hz0 hz1 .i64 .i64 _ _ n rfl rfl rfl rfl (by rw [hz2]; omega) (by unfold maxLen; omega) (Nat.le_refl _) ?_; intro w1 hown1 hg1)
  have hb1 : Below w.heap.size w w1 := (Below.refl _ _).grown hg1 (Nat.le_refl _) (by simp)
  clear hg1
  generalize (madeCells (Value.agg #[.int .i64 0, .string ⟨#[]⟩]).cells (n * 2)).toList = zs at hown1
  have hzl : Hid (zs.length = n * 2) := by have := hown1.1; exact Lib.hid (by omega)
  generalize hG : w.heap.size = G at hown1 hb1 ⊢
  have HG := Lib.hid hG
  clear hG
  go_loopw [4] (fun i wr => ∃ k : Nat, k ≤ n ∧ i = .int .i64 k ∧ wr.ownsRow G 63 2 (.slice (some ⟨G, 0, none⟩) n n) n (mix (pcs xs) zs (k * 2)) ∧ Below G w wr) (fun i _ => n - (intOf i).toNat)
  case atStart => exact ⟨0, Nat.zero_le _, rfl, by rw [Nat.zero_mul, mix_zero]; exact hown1, hb1⟩
  case round =>
    obtain ⟨k, hk, rfl, hown, hbel⟩ := hrel
    by_cases hlt : k < n
    · obtain ⟨b, off, p, s, rfl, hbb, hxk, hc0, hc1⟩ := h.pcAt hlt
      have hc0' : wr.cell? ⟨b, off + k * 2, none⟩ = some (.int .i64 p) := (hbel.cell (by rw [← HG.out]; exact hbb)).trans hc0
      have hc1' : wr.cell? ⟨b, off + k * 2 + 1, none⟩ = some (.string s) := (hbel.cell (by rw [← HG.out]; exact hbb)).trans hc1
      have hl : (pcs xs).length = zs.length := by rw [pcs_length, hxl.out, hzl.out]
      have HM1 := Lib.hid (mix_set (pcs_cell0 hxk) hl)
      have HM2 := Lib.hid (mix_set (pcs_cell1 hxk) hl)
      have HZ0 : Hid (∃ u, (mix (pcs xs) zs (k * 2))[k * 2]? = some u) := Lib.hid (by rw [mix_get hl (by rw [hzl.out]; omega)]; exact ⟨_, List.getElem?_eq_getElem (by rw [hzl.out]; omega)⟩)
      have HZ1 : Hid (∃ u, (mix (pcs xs) zs (k * 2))[k * 2 + 1]? = some u) := Lib.hid (by
        have h1 : (k * 2 + 1) < (mix (pcs xs) zs (k * 2)).length := by rw [mix_length _ hl, hzl.out]; omega
        exact ⟨_, List.getElem?_eq_getElem h1⟩)
      have HZ2 : Hid (∃ u, (mix (pcs xs) zs (k * 2 + 1))[k * 2 + 1]? = some u) := Lib.hid (by rw [mix_get hl (by rw [hzl.out]; omega)]; exact ⟨_, List.getElem?_eq_getElem (by rw [hzl.out]; omega)⟩)
      clear hl hc0 hc1 h hxk
      go_wp2_with (go_at_call 38; refine (toPiece s p _).mono ?_; rintro e w2 ⟨rfl, hb2⟩; have hown2 := own_below hown hb2; obtain ⟨z0, hz0'⟩ := HZ0.out; obtain ⟨z1, hz1'⟩ := HZ1.out; obtain ⟨z2, hz2'⟩ := HZ2.out; have hk0 : w2.cell? ⟨G, k * 2, none⟩ = some z0 := (hown2.cellAt (k * 2) (by omega)).trans hz0'; have hf0 := hown2.frozenAt (k * 2); have hk1 : w2.cell? ⟨G, k * 2 + 1, none⟩ = some z1 := (hown2.cellAt (k * 2 + 1) (by omega)).trans hz1'; have hf1 := hown2.frozenAt (k * 2 + 1); have hown3 := (hown2.stored (k * 2) (.int .i64 p)).1; rw [HM1.out] at hown3; have hk3 : (w2.setCell ⟨G, k * 2, none⟩ (.int .i64 p)).cell? ⟨G, k * 2 + 1, none⟩ = some z2 := (hown3.cellAt (k * 2 + 1) (by omega)).trans hz2'; have hf3 := hown3.frozenAt (k * 2 + 1))
      have hown4 := (hown3.stored (k * 2 + 1) (.string s)).1
      rw [HM2.out] at hown4
      have HB := ((hbel.trans (hb2.mono (by have h1 := hbel.size; have h2 := HG.out; omega))).setCell (p := ⟨G, k * 2, none⟩) (Nat.le_refl _) (.int .i64 p)).setCell (p := ⟨G, k * 2 + 1, none⟩) (Nat.le_refl _) (.string s)
      go_wp2
      go_roundw
      case rel => exact ⟨k + 1, by omega, by go_num, by rw [show (k + 1) * 2 = k * 2 + 1 + 1 from by omega]; exact hown4, HB⟩
      case measure => simp [intOf]; omega
    · have hkn : k = n := by omega
      subst hkn
      have e : mix (pcs xs) zs (k * 2) = pcs xs := by have e0 := mix_all (pcs xs) zs (by rw [pcs_length, hxl.out, hzl.out]); rwa [pcs_length, hxl.out] at e0
      rw [e] at hown
      go_wp2
      go_ret
      refine ⟨_, rfl, ?_, ?_, fun e => by cases e⟩
      · rw [HG.out]; exact hown
      · rw [HG.out]; exact hbel
end Go.Proofs.YtjombaiplnebmaaDoor
