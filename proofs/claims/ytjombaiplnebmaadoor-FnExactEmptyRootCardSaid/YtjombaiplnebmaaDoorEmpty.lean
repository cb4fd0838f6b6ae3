/- Contracts of both EmptyRoot. -/
import Derived.Test.YtjombaiplnebmaaDoorPutTS
import Derived.Test.YtjombaiplnebmaaDoorFolder
open Go.RowKit
namespace Go.Proofs.YtjombaiplnebmaaDoor
theorem folderT_nil_size : (folderT []).size ≤ maxLen := Nat.le_trans (folderT_size []) (by unfold maxLen; omega)
set_option maxRecDepth 8000 in
theorem specEmptyRoot (base n : Nat) (v : Value) (xs : List (Int × ByteArray)) (w : World) (h : w.ownsRow base 63 2 v n (pcs xs)) (hbk : v.ownBlock ≠ none) (hx : ∀ x ∈ xs, x.2.size ≤ maxLen) (hn : n ≤ 4194000) :
    Calls Tryd.prog 13 #[v] w fun e w' => ∃ v', e = .returned (.tuple #[v', .int .i64 (putT xs (folderT [])).2.1, .bool (putT xs (folderT [])).2.2]) ∧ w'.ownsRow w.heap.size 63 2 v' (putT xs (folderT [])).1.length (pcs (putT xs (folderT [])).1) ∧ Below w.heap.size w w' ∧ v'.ownBlock ≠ none := by
  have hb0 : Below w.heap.size w (w.alloc (.cells #[] 58)) := (Below.refl _ _).alloc (Nat.le_refl _) _
  go_enter Tryd.func13, Tryd.ntmps13
  go_wp2_with fail
  refine (specFolderText _ _ _ [] _ (Rd.own (own_empty w 58 2)) (fun _ h => by cases h) (by omega)).mono ?_
  rintro e w1 ⟨rfl, k1, hw1⟩
  have hb1 : Below w.heap.size w w1 := by rw [hw1]; exact below_to hb0 hb0.size (below_drewN _ _)
  clear hw1
  go_wp2_with fail
  refine (specPutText _ _ _ (folderT []) xs _ (own_below h hb1) hbk hx folderT_nil_size hn).mono ?_
  rintro e w2 ⟨v2, rfl, hown2, hb2, hbk2⟩
  have hown3 := own_base hown2 hb1.size
  have hB := below_step hb1 hb2
  clear hown2
  have HR : ∃ ys pr bb, Hid (putT xs (folderT []) = (ys, pr, bb)) := ⟨_, _, _, Lib.hid rfl⟩
  obtain ⟨ys, pr, bb, HR⟩ := HR
  rw [HR.out] at hown3 ⊢
  dsimp only at hown3 ⊢
  go_wp2_with fail
  refine bodyPost_ret (v := .tuple #[v2, .int .i64 pr, .bool bb]) (by simp [results, Tryd.results13, go_sem]) rfl ?_
  rw [HR.out]
  exact ⟨_, rfl, hown3, hB, hbk2⟩
set_option maxRecDepth 8000 in
theorem implEmptyRoot (A : Option Addr) (n c : Nat) (xs : List (Int × ByteArray)) (w : World) (h : Rd w 2 A n (pcs xs)) (hx : ∀ x ∈ xs, x.2.size ≤ maxLen) (hcell : w.cell? ⟨5, 15, none⟩ = some (.int .u8 4)) (hn : n ≤ 4194000) :
    Calls Tryd.prog 15 #[.slice A n c] w fun e w' => ∃ v, e = .returned (.tuple #[v, .int .i64 (putT xs (folderT [])).2.1, .bool (putT xs (folderT [])).2.2]) ∧ w'.ownsRow w.heap.size 63 2 v (putT xs (folderT [])).1.length (pcs (putT xs (folderT [])).1) ∧ Below w.heap.size w w' := by
  go_enter Tryd.func15, Tryd.ntmps15
  go_wp2_with fail
  refine (implFolderText _ _ _ [] _ ⟨rfl, fun h => by omega⟩ (fun _ h => by cases h) hcell).mono ?_
  rintro e w1 ⟨rfl, hb1⟩
  go_wp2_with fail
  refine (implPutText _ _ _ (folderT []) xs _ (h.below hb1) hx folderT_nil_size hn).mono ?_
  rintro e w2 ⟨v2, rfl, hown2, hb2⟩
  have hown3 := own_base hown2 hb1.size
  have hB := below_step hb1 hb2
  clear hown2
  have HR : ∃ ys pr bb, Hid (putT xs (folderT []) = (ys, pr, bb)) := ⟨_, _, _, Lib.hid rfl⟩
  obtain ⟨ys, pr, bb, HR⟩ := HR
  rw [HR.out] at hown3 ⊢
  dsimp only at hown3 ⊢
  go_wp2_with fail
  refine bodyPost_ret (v := .tuple #[v2, .int .i64 pr, .bool bb]) (by simp [results, Tryd.results15, go_sem]) rfl ?_
  rw [HR.out]
  exact ⟨_, rfl, hown3, hB⟩
end Go.Proofs.YtjombaiplnebmaaDoor
