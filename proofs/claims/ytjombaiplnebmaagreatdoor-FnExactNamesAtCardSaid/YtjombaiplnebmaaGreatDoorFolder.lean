/- Contracts of both FolderText. -/
import Derived.Test.YtjombaiplnebmaaGreatDoorMpl
import Derived.Test.YtjombaiplnebmaaGreatDoorHexS
import Derived.Test.YtjombaiplnebmaaGreatDoorHexI
import Derived.Test.YtjombaiplnebmaaGreatDoorEntryV
import Derived.Deep.RegionHeld
import Derived.Deep.QuietTactic
open Go.RowKit
namespace Go.Proofs.YtjombaiplnebmaaGreatDoor
theorem fold_take {xs : List (ByteArray × Int)} {k : Nat} {x : ByteArray × Int} (h : xs[k]? = some x) : (100 :: foldL (xs.take (k + 1)) : List UInt8) = (100 :: foldL (xs.take k)) ++ lineL x := by
  rw [take_snoc h, foldL_snoc]
  rfl
theorem line_add (l : List UInt8) (x : ByteArray) (p : Int) : ofL l ++ x ++ (⟨#[61]⟩ : ByteArray) ++ hexT p ++ (⟨#[59]⟩ : ByteArray) = ofL (l ++ lineL (x, p)) := by
  refine ByteArray.ext (Array.toList_inj.1 ?_)
  simp [ofL_data, lineL]
theorem line_add2 (l : List UInt8) (x : ByteArray) (p : Int) : ofL l ++ (x ++ (⟨#[61]⟩ : ByteArray) ++ hexT p ++ (⟨#[59]⟩ : ByteArray)) = ofL (l ++ lineL (x, p)) := by
  refine ByteArray.ext (Array.toList_inj.1 ?_)
  simp [ofL_data, lineL]
theorem fold_size {xs : List (ByteArray × Int)} (h : entriesV xs = true) (k : Nat) : (ofL (100 :: foldL (xs.take k))).size ≤ 60 := by
  have h1 := (foldL_text xs (entriesV_ok h)).2
  have h2 := entriesV_len h
  have h3 : foldL xs = foldL (xs.take k) ++ foldL (xs.drop k) := by
    unfold foldL
    rw [← List.flatten_append, ← List.map_append, List.take_append_drop]
  have h4 := congrArg List.length h3
  rw [List.length_append] at h4
  show (100 :: foldL (xs.take k) : List UInt8).toArray.size ≤ 60
  rw [List.size_toArray, List.length_cons]
  omega
set_option maxRecDepth 8000 in
set_option maxHeartbeats 1600000 in
theorem specFolderText (A : Option Addr) (n c : Nat) (xs : List (ByteArray × Int)) (w : World) (h : Rd w 2 A n (ens xs)) (hx : ∀ x ∈ xs, x.1.size ≤ maxLen) (hn : n ≤ 4194304) :
    Calls Tryz.prog 38 #[.slice A n c] w fun e w' => e = .returned (.string (folderT xs)) ∧ ∃ k, w' = w.drewN k := by
  have HL := Lib.hid h.enLen
  have HX := Lib.hid hx
  clear hx
  go_enter Tryz.func38, Tryz.ntmps38
  go_wp2_with fail
  refine (specEntriesValid _ _ _ xs _ h HX.out hn).mono ?_
  rintro e w1 ⟨rfl, k1, rfl⟩
  cases hv : entriesV xs
  · have HT := Lib.hid (folderT_out hv)
    clear hv
    go_wp2_with fail
    go_ret
    exact ⟨ret_str HT.out.symm, k1, rfl⟩
  · have HT := Lib.hid (folderT_in hv)
    have HV := Lib.hid hv
    have h3 := entriesV_len hv
    clear hv
    go_wp2_with fail
    go_loopw [3, 4] (fun o i wr => ∃ k : Nat, k ≤ n ∧ i = .int .i64 (k : Int) ∧ o = .string (ofL (100 :: foldL (xs.take k))) ∧ ∃ j, Hid (wr = w.drewN j)) (fun _ i _ => n - (intOf i).toNat)
    case atStart => exact ⟨0, Nat.zero_le _, rfl, rfl, k1, Lib.hid rfl⟩
    case round =>
      obtain ⟨k, hk, rfl, rfl, j, HW⟩ := hrel
      by_cases hlt : k < n
      · obtain ⟨b, off, s, p, rfl, hbb, hxk, hc0, hc1⟩ := h.enAt hlt
        have hltI : (k : Int) < (n : Int) := by omega
        have hcw0 : wr.cell? ⟨b, off + k * 2, none⟩ = some (.string s) := by rw [HW.out]; exact hc0
        have hcw1 : wr.cell? ⟨b, off + k * 2 + 1, none⟩ = some (.int .i64 p) := by rw [HW.out]; exact hc1
        have HF := Lib.hid (fold_take hxk)
        have hz1 := fold_size HV.out k
        have hz2 := hexT_size p
        have hs8 : s.size ≤ 8 := by
          have := (entriesV_ok HV.out (s, p) (List.mem_of_getElem? hxk)).word
          unfold wordV at this
          rw [Bool.and_eq_true] at this
          have h2 := (of_decide_eq_true this.1).2
          rw [bts_length] at h2
          exact h2
        have HA := Lib.hid (line_add (100 :: foldL (xs.take k)) s p)
        have HZ := Lib.hid (rfl : ofL (100 :: foldL (xs.take k)) = ofL (100 :: foldL (xs.take k)))
        clear hxk hc0 hc1
        generalize ofL (100 :: foldL (xs.take k)) = o at *
        go_wp2_with fail
        go_region_held (fun W => W.cell? ⟨b, off + k * 2, none⟩ = some (.string s) ∧ W.cell? ⟨b, off + k * 2 + 1, none⟩ = some (.int .i64 p)) (exact ⟨hcw0, hcw1⟩) (first | (go_at_call 51; refine (specHexText p _).mono ?_; rintro e w3 ⟨rfl, rfl⟩))
        all_goals
          go_wp2_with fail
          go_roundw
          case rel => exact ⟨k + 1, by omega, by go_num, by rw [HA.out, HF.out], j + 1, Lib.hid (by rw [HW.out]; rfl)⟩
          case measure => simp [intOf]; omega
      · obtain rfl : k = n := by omega
        have HE : Hid (folderT xs = ofL (100 :: foldL (xs.take k))) := Lib.hid (by rw [HT.out, List.take_of_length_le (by rw [HL.out]; omega)])
        go_wp2_with fail
        go_ret
        exact ⟨ret_str HE.out.symm, j, HW.out⟩
set_option maxRecDepth 8000 in
set_option maxHeartbeats 1600000 in
theorem implFolderText (A : Option Addr) (n c : Nat) (xs : List (ByteArray × Int)) (w : World) (h : Rd w 2 A n (ens xs)) (hx : ∀ x ∈ xs, x.1.size ≤ maxLen) (hcell : w.cell? ⟨5, 15, none⟩ = some (.int .u8 4)) :
    Calls Tryz.prog 55 #[.slice A n c] w fun e w' => e = .returned (.string (folderT xs)) ∧ Below w.heap.size w w' := by
  have HL := Lib.hid h.enLen
  have HX := Lib.hid hx
  clear hx
  go_enter Tryz.func55, Tryz.ntmps55
  go_wp2_with fail
  refine (implEntriesValid _ _ _ xs _ h HX.out).mono ?_
  rintro e w1 ⟨rfl, hb1⟩
  cases hv : entriesV xs
  · have HT := Lib.hid (folderT_out hv)
    clear hv
    go_wp2_with fail
    go_ret
    exact ⟨ret_str HT.out.symm, hb1⟩
  · have HT := Lib.hid (folderT_in hv)
    have HV := Lib.hid hv
    have h3 := entriesV_len hv
    rw [HL.out] at h3
    clear hv
    go_wp2_with fail
    go_loopw [3, 5, 11] (fun o _ i wr => ∃ k : Nat, k ≤ n ∧ i = .int .i64 (k : Int) ∧ o = .string (ofL (100 :: foldL (xs.take k))) ∧ Below w.heap.size w wr) (fun _ _ i _ => n - (intOf i).toNat)
    case atStart => exact ⟨0, Nat.zero_le _, rfl, rfl, hb1⟩
    case round =>
      obtain ⟨k, hk, rfl, rfl, hB⟩ := hrel
      by_cases hlt : k < n
      · obtain ⟨b, off, s, p, rfl, hbb, hxk, hc0, hc1⟩ := (h.below hB).enAt hlt
        have hltI : (k : Int) < (n : Int) := by omega
        have HF := Lib.hid (fold_take hxk)
        have hz1 := fold_size HV.out k
        have hz2 := hexT_size p
        have hs8 : s.size ≤ 8 := by
          have := (entriesV_ok HV.out (s, p) (List.mem_of_getElem? hxk)).word
          unfold wordV at this
          rw [Bool.and_eq_true] at this
          have h2 := (of_decide_eq_true this.1).2
          rw [bts_length] at h2
          exact h2
        have HA := Lib.hid (line_add2 (100 :: foldL (xs.take k)) s p)
        have hcellr := (hB.cell (p := ⟨5, 15, none⟩) (World.block_lt_of_cell? w _ hcell)).trans hcell
        clear hxk
        generalize ofL (100 :: foldL (xs.take k)) = o at *
        have hba : Below wr.heap.size wr (wr.alloc (.cells #[.string s, .int .i64 p] 50)) := (Below.refl _ _).alloc (Nat.le_refl _) _
        have hB2 := below_step hB hba
        have e0 : (wr.alloc (.cells #[.string s, .int .i64 p] 50)).cell? ⟨wr.heap.size, 0, none⟩ = some (.string s) := cell_of_row _ _ 0 _ 50 (0, 0) (heap_alloc_new wr _)
        have e1 : (wr.alloc (.cells #[.string s, .int .i64 p] 50)).cell? ⟨wr.heap.size, 1, none⟩ = some (.int .i64 p) := cell_of_row _ _ 1 _ 50 (0, 0) (heap_alloc_new wr _)
        have hcell2 := (hba.cell (p := ⟨5, 15, none⟩) (World.block_lt_of_cell? wr _ hcellr)).trans hcellr
        go_wp2_with fail
        generalize (wr.alloc (.cells #[.string s, .int .i64 p] 50)) = w2 at *
        go_region_held (fun W => W.cell? ⟨wr.heap.size, 0, none⟩ = some (.string s) ∧ W.cell? ⟨wr.heap.size, 1, none⟩ = some (.int .i64 p)) (first | exact ⟨e0, e1⟩ | exact ⟨e2, e3⟩) (first | (go_at_call 70; refine (implHexText p _ (by exact hcell2)).mono ?_; rintro e w3 ⟨rfl, hb3'⟩; have hb3 := below_step (below_drewN w2 1) hb3'; have e2 := (hb3.cell (p := ⟨wr.heap.size, 0, none⟩) (World.block_lt_of_cell? w2 _ e0)).trans e0; have e3 := (hb3.cell (p := ⟨wr.heap.size, 1, none⟩) (World.block_lt_of_cell? w2 _ e1)).trans e1))
        all_goals
          go_wp2_with fail
          go_roundw
          case rel => exact ⟨k + 1, by omega, by go_num, by rw [HA.out, HF.out], below_step hB2 hb3⟩
          case measure => simp [intOf]; omega
      · obtain rfl : k = n := by omega
        have HE : Hid (folderT xs = ofL (100 :: foldL (xs.take k))) := Lib.hid (by rw [HT.out, List.take_of_length_le (by rw [HL.out]; omega)])
        go_wp2_with fail
        go_ret
        exact ⟨ret_str HE.out.symm, hB⟩
end Go.Proofs.YtjombaiplnebmaaGreatDoor
