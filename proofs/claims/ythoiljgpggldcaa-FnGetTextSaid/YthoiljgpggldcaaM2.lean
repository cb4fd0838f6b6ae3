/- The texts Strs Pcs FindP as one. -/
import Derived.Test.YthoiljgpggldcaaWords
import Derived.Test.YthoiljgpggldcaaMem
import Derived.Deep.RegionWith
import Derived.Laws.BytesArg
import Derived.Deep.RegionLaw
import Derived.Test.YthoiljgpggldcaaM1
/- Contracts of what a law does with lists of texts: copies, compares, marks, looks. -/
open Go.RowKit
namespace Go.Proofs.Ythoiljgpggldcaa
theorem str_info : (Try.prog.info? 9).map (fun i => (i.zero, i.size, i.bytes)) = some (some (.string ⟨#[]⟩), 1, 16) := by kernel_rfl
theorem toList_ne {x y : ByteArray} (h : ¬ x = y) : (x.toList == y.toList) = false := by
  rw [beq_eq_false_iff_ne]
  intro e
  rw [Lib.toList_data, Lib.toList_data] at e
  exact h (ByteArray.ext (Array.toList_inj.1 e))
/-- The sum of the sizes. -/
def totS (xs : List ByteArray) : Nat := (xs.map ByteArray.size).sum
theorem totS_snoc (xs : List ByteArray) (x : ByteArray) : totS (xs ++ [x]) = totS xs + x.size := by simp [totS]
theorem totS_mem {xs : List ByteArray} {x : ByteArray} (h : x ∈ xs) : x.size ≤ totS xs := by
  induction xs with
  | nil => cases h
  | cons y ys ih =>
    unfold totS at ih ⊢
    rw [List.map_cons, List.sum_cons]
    rcases List.mem_cons.1 h with rfl | h
    · omega
    · have := ih h; omega
theorem totS_take {xs : List ByteArray} (k : Nat) : totS (xs.take k) ≤ totS xs := by
  unfold totS
  conv => rhs; rw [← List.take_append_drop k xs]
  rw [List.map_append, List.sum_append]
  omega
end Go.Proofs.Ythoiljgpggldcaa
/- Contracts of what a law does with lists of pieces: sizes, copies, compares. -/
open Go.RowKit
namespace Go.Proofs.Ythoiljgpggldcaa
def totP (xs : List (Int × ByteArray)) : Nat := (xs.map fun x => x.2.size).sum
theorem totP_snoc (xs : List (Int × ByteArray)) (x : (Int × ByteArray)) : totP (xs ++ [x]) = totP xs + x.2.size := by simp [totP]
theorem totP_mem {xs : List (Int × ByteArray)} {x : (Int × ByteArray)} (h : x ∈ xs) : x.2.size ≤ totP xs := by
  induction xs with
  | nil => cases h
  | cons y ys ih =>
    unfold totP at ih ⊢
    rw [List.map_cons, List.sum_cons]
    rcases List.mem_cons.1 h with rfl | h
    · omega
    · have := ih h; omega
theorem pcs_info : (Try.prog.info? 28).map (fun i => (i.zero, i.size, i.bytes)) = some (some (.agg #[.int .i64 0, .string ⟨#[]⟩]), 2, 24) := by kernel_rfl
theorem pcs_cell0 {xs : List (Int × ByteArray)} {k : Nat} {x : (Int × ByteArray)} (h : xs[k]? = some x) : (pcs xs)[k * 2]? = some (.int .i64 x.1) := by
  unfold pcs
  rw [flat2_get, if_pos (by omega), show k * 2 / 2 = k from by omega, h]
  rfl
theorem pcs_cell1 {xs : List (Int × ByteArray)} {k : Nat} {x : (Int × ByteArray)} (h : xs[k]? = some x) : (pcs xs)[k * 2 + 1]? = some (.string x.2) := by
  unfold pcs
  rw [flat2_get, if_neg (by omega), show (k * 2 + 1) / 2 = k from by omega, h]
  rfl
end Go.Proofs.Ythoiljgpggldcaa
/- Contracts: where a piece belongs (slices.BinarySearchFunc, cmp.Compare). -/
open Go.RowKit
namespace Go.Proofs.Ythoiljgpggldcaa
def cmpI (a b : Int) : Int := if a < b then -1 else if b < a then 1 else 0
def pcIs (t : Int) (x : Int × ByteArray) : Bool := x.1 == t
theorem cmpI_pre (s : ByteArray) (p t : Int) : decide (cmpI p t < 0) = pcBelow t (p, s) := by
  unfold cmpI pcBelow
  by_cases h : p < t
  · rw [if_pos h]; simp [h]
  · rw [if_neg h]; split <;> simp [h]
theorem cmpI_is (s : ByteArray) (p t : Int) : (cmpI p t == 0) = pcIs t (p, s) := by
  unfold cmpI pcIs
  by_cases h : p < t
  · rw [if_pos h]
    exact (beq_false_of_ne (by omega)).trans (beq_false_of_ne (show p ≠ t by omega)).symm
  · rw [if_neg h]
    by_cases h2 : t < p
    · rw [if_pos h2]
      exact (beq_false_of_ne (by omega)).trans (beq_false_of_ne (show p ≠ t by omega)).symm
    · rw [if_neg h2]
      have : p = t := by omega
      subst this
      simp

theorem cmpInt (a b : Int) (w : World) :
    Calls Try.prog 37 #[.int .i64 a, .int .i64 b] w fun e w' => e = .returned (.int .i64 (cmpI a b)) ∧ w' = w := by
  go_enter Try.func37, Try.ntmps37
  go_wp2
  all_goals
    go_ret
    refine ⟨?_, rfl⟩
    unfold cmpI
    split <;> rename_i h1 <;> first | rfl | skip
    all_goals first | (split <;> rename_i h2 <;> first | rfl | (exfalso; omega)) | (exfalso; omega)
theorem findPieceOf (s : ByteArray) (p : Int) (t : Int) (w : World) :
    Calls Try.prog 36 #[.agg #[.int .i64 p, .string s], .int .i64 t] w fun e w' => e = .returned (.int .i64 (cmpI p t)) ∧ Below w.heap.size w w' := by
  go_enter Try.func36, Try.ntmps36
  go_wp2_with (go_at_call 37; refine (cmpInt _ _ _).mono ?_; rintro e w' ⟨rfl, rfl⟩)
  go_ret
  exact ⟨rfl, (Below.refl _ _).alloc (Nat.le_refl _) _⟩
set_option maxHeartbeats 1600000 in
theorem searchPiece (A : Option Addr) (n c : Nat) (t : Int) (xs : List (Int × ByteArray)) (w : World) (h : Rd w 2 A n (pcs xs)) (hf : Falls (pcBelow t) xs) (hn : n ≤ 4194304) :
    Calls Try.prog 35 #[.slice A n c, .int .i64 t, .func (.func 36) #[] #[]] w fun e w' => e = .returned (.tuple #[.int .i64 ((posOf (pcBelow t) xs : Nat) : Int), .bool (foundOf (pcBelow t) (pcIs t) xs)]) ∧ Below w.heap.size w w' := by
  have HX := Lib.hid h.pcLen
  have HF := Lib.hid hf
  clear hf
  go_enter Try.func35, Try.ntmps35
  go_wp2_with fail
  go_loopw [9, 10] (fun iv jv wr => ∃ i j : Nat, iv = .int .i64 (i : Int) ∧ jv = .int .i64 (j : Int) ∧ i ≤ j ∧ j ≤ n ∧ Halved (pcBelow t) xs i j ∧ Below w.heap.size w wr) (fun iv jv _ => (intOf jv).toNat - (intOf iv).toNat)
  case atStart => exact ⟨0, n, rfl, rfl, Nat.zero_le _, Nat.le_refl _, by rw [← HX.out]; exact halved_start _ _, Below.refl _ _⟩
  case round =>
    obtain ⟨i, j, rfl, rfl, hij, hjn, hh, hb⟩ := hrel
    have HH := Lib.hid hh
    clear hh
    have hr := h.below hb
    by_cases hlt : i < j
    · obtain ⟨bb, off, p, s, rfl, _, hx, hc0, hc1⟩ := hr.pcAt (show (i + j) / 2 < n by omega)
      have hp := cmpI_pre s p t
      obtain ⟨z, hz⟩ : ∃ z, cmpI p t = z := ⟨_, rfl⟩
      rw [hz] at hp
      have HZ := Lib.hid hz
      clear hz
      cases hb' : pcBelow t (p, s)
      · rw [hb'] at hp
        have HL := Lib.hid (halved_left HF.out HH.out hx hb')
        clear hx hb'
        go_wp2_with (go_at_call 36; refine (findPieceOf s p t _).mono ?_; rintro e w2 ⟨rfl, hb2⟩; rw [HZ.out])
        go_roundw
        case rel => exact ⟨i, (i + j) / 2, rfl, by go_num, by omega, by omega, HL.out, below_step hb hb2⟩
        case measure => simp [intOf]; omega
      · rw [hb'] at hp
        have HL := Lib.hid (halved_right HF.out HH.out hx hb')
        clear hx hb'
        go_wp2_with (go_at_call 36; refine (findPieceOf s p t _).mono ?_; rintro e w2 ⟨rfl, hb2⟩; rw [HZ.out])
        go_roundw
        case rel => exact ⟨(i + j) / 2 + 1, j, by go_num, rfl, by omega, by omega, HL.out, below_step hb hb2⟩
        case measure => simp [intOf]; omega
    · obtain rfl : i = j := by omega
      have HE := Lib.hid (halved_end (by rw [HX.out]; omega) HH.out)
      by_cases hin : i < n
      · obtain ⟨bb, off, p, s, rfl, _, hx, hc0, hc1⟩ := hr.pcAt hin
        have hp := cmpI_is s p t
        obtain ⟨z, hz⟩ : ∃ z, cmpI p t = z := ⟨_, rfl⟩
        rw [hz] at hp
        have HZ := Lib.hid hz
        have HW : Hid (foundOf (pcBelow t) (pcIs t) xs = pcIs t (p, s)) := Lib.hid (by unfold foundOf; rw [HE.out, hx])
        clear hz hx
        generalize pcIs t (p, s) = b at *
        go_wp2_with (go_at_call 36; refine (findPieceOf s p t _).mono ?_; rintro e w2 ⟨rfl, hb2⟩; rw [HZ.out])
        go_ret2
        exact ⟨by rw [HE.out, HW.out]; rfl, below_step hb hb2⟩
      · have HW : Hid (foundOf (pcBelow t) (pcIs t) xs = false) := Lib.hid (by unfold foundOf; rw [HE.out, List.getElem?_eq_none (by rw [HX.out]; omega)])
        go_wp2_with fail
        go_ret2
        exact ⟨by rw [HE.out, HW.out]; rfl, hb⟩
theorem findPieceC (A : Option Addr) (n c : Nat) (t : Int) (xs : List (Int × ByteArray)) (w : World) (h : Rd w 2 A n (pcs xs)) (hf : Falls (pcBelow t) xs) (hn : n ≤ 4194304) :
    Calls Try.prog 28 #[.slice A n c, .int .i64 t] w fun e w' => e = .returned (.tuple #[.int .i64 ((posOf (pcBelow t) xs : Nat) : Int), .bool (foundOf (pcBelow t) (pcIs t) xs)]) ∧ Below w.heap.size w w' := by
  go_enter Try.func28, Try.ntmps28
  go_wp2_with (go_at_call 35; refine (searchPiece _ _ _ _ _ _ h hf hn).mono ?_; rintro e w2 ⟨rfl, hb2⟩)
  go_ret2
  exact ⟨rfl, hb2⟩
end Go.Proofs.Ythoiljgpggldcaa
