/- Contracts: where a piece belongs (slices.BinarySearchFunc, cmp.Compare). -/
import Derived.Test.YtjombaiplnebmaaDoorFind
import Derived.Test.YtjombaiplnebmaaDoorPcs
open Go.RowKit
namespace Go.Proofs.YtjombaiplnebmaaDoor
def cmpI (a b : Int) : Int := if a < b then -1 else if b < a then 1 else 0
def pcIs (t : Int) (x : Int × ByteArray) : Bool := x.1 == t
theorem cmpI_pre (s : ByteArray) (p t : Int) : decide (cmpI p t < 0) = pcBelow t (p, s) := by
  unfold cmpI pcBelow
  by_cases h : p < t
  · rw [if_pos h]; simp [h]
  · rw [if_neg h]; split <;> simp [h]
theorem cmpI_is (s : ByteArray) (p t : Int) : (cmpI p t == 0) = pcIs t (p, s) := by
  unfold cmpI pcIs
  by_cases h : p < t
  · rw [if_pos h]
    exact (beq_false_of_ne (by omega)).trans (beq_false_of_ne (show p ≠ t by omega)).symm
  · rw [if_neg h]
    by_cases h2 : t < p
    · rw [if_pos h2]
      exact (beq_false_of_ne (by omega)).trans (beq_false_of_ne (show p ≠ t by omega)).symm
    · rw [if_neg h2]
      have : p = t := by omega
      subst this
      simp

theorem cmpInt (a b : Int) (w : World) :
    Calls Tryd.prog 84 #[.int .i64 a, .int .i64 b] w fun e w' => e = .returned (.int .i64 (cmpI a b)) ∧ w' = w := by
  go_enter Tryd.func84, Tryd.ntmps84
  go_wp2
  all_goals
    go_ret
    refine ⟨?_, rfl⟩
    unfold cmpI
    split <;> rename_i h1 <;> first | rfl | skip
    all_goals first | (split <;> rename_i h2 <;> first | rfl | (exfalso; omega)) | (exfalso; omega)
theorem findPieceOf (s : ByteArray) (p : Int) (t : Int) (w : World) :
    Calls Tryd.prog 83 #[.agg #[.int .i64 p, .string s], .int .i64 t] w fun e w' => e = .returned (.int .i64 (cmpI p t)) ∧ Below w.heap.size w w' := by
  go_enter Tryd.func83, Tryd.ntmps83
  go_wp2_with (go_at_call 84; refine (cmpInt _ _ _).mono ?_; rintro e w' ⟨rfl, rfl⟩)
  go_ret
  exact ⟨rfl, (Below.refl _ _).alloc (Nat.le_refl _) _⟩
set_option maxHeartbeats 1600000 in
theorem searchPiece (A : Option Addr) (n c : Nat) (t : Int) (xs : List (Int × ByteArray)) (w : World) (h : Rd w 2 A n (pcs xs)) (hf : Falls (pcBelow t) xs) (hn : n ≤ 4194304) :
    Calls Tryd.prog 82 #[.slice A n c, .int .i64 t, .func (.func 83) #[] #[]] w fun e w' => e = .returned (.tuple #[.int .i64 ((posOf (pcBelow t) xs : Nat) : Int), .bool (foundOf (pcBelow t) (pcIs t) xs)]) ∧ Below w.heap.size w w' := by
  have HX := Lib.hid h.pcLen
  have HF := Lib.hid hf
  clear hf
  go_enter Tryd.func82, Tryd.ntmps82
  go_wp2_with fail
  go_loopw [9, 10] (fun iv jv wr => ∃ i j : Nat, iv = .int .i64 (i : Int) ∧ jv = .int .i64 (j : Int) ∧ i ≤ j ∧ j ≤ n ∧ Halved (pcBelow t) xs i j ∧ Below w.heap.size w wr) (fun iv jv _ => (intOf jv).toNat - (intOf iv).toNat)
  case atStart => exact ⟨0, n, rfl, rfl, Nat.zero_le _, Nat.le_refl _, by rw [← HX.out]; exact halved_start _ _, Below.refl _ _⟩
  case round =>
    obtain ⟨i, j, rfl, rfl, hij, hjn, hh, hb⟩ := hrel
    have HH := Lib.hid hh
    clear hh
    have hr := h.below hb
    by_cases hlt : i < j
    · obtain ⟨bb, off, p, s, rfl, _, hx, hc0, hc1⟩ := hr.pcAt (show (i + j) / 2 < n by omega)
      have hp := cmpI_pre s p t
      obtain ⟨z, hz⟩ : ∃ z, cmpI p t = z := ⟨_, rfl⟩
      rw [hz] at hp
      have HZ := Lib.hid hz
      clear hz
      cases hb' : pcBelow t (p, s)
      · rw [hb'] at hp
        have HL := Lib.hid (halved_left HF.out HH.out hx hb')
        clear hx hb'
        go_wp2_with (go_at_call 83; refine (findPieceOf s p t _).mono ?_; rintro e w2 ⟨rfl, hb2⟩; rw [HZ.out])
        go_roundw
        case rel => exact ⟨i, (i + j) / 2, rfl, by go_num, by omega, by omega, HL.out, below_step hb hb2⟩
        case measure => simp [intOf]; omega
      · rw [hb'] at hp
        have HL := Lib.hid (halved_right HF.out HH.out hx hb')
        clear hx hb'
        go_wp2_with (go_at_call 83; refine (findPieceOf s p t _).mono ?_; rintro e w2 ⟨rfl, hb2⟩; rw [HZ.out])
        go_roundw
        case rel => exact ⟨(i + j) / 2 + 1, j, by go_num, rfl, by omega, by omega, HL.out, below_step hb hb2⟩
        case measure => simp [intOf]; omega
    · obtain rfl : i = j := by omega
      have HE := Lib.hid (halved_end (by rw [HX.out]; omega) HH.out)
      by_cases hin : i < n
      · obtain ⟨bb, off, p, s, rfl, _, hx, hc0, hc1⟩ := hr.pcAt hin
        have hp := cmpI_is s p t
        obtain ⟨z, hz⟩ : ∃ z, cmpI p t = z := ⟨_, rfl⟩
        rw [hz] at hp
        have HZ := Lib.hid hz
        have HW : Hid (foundOf (pcBelow t) (pcIs t) xs = pcIs t (p, s)) := Lib.hid (by unfold foundOf; rw [HE.out, hx])
        clear hz hx
        generalize pcIs t (p, s) = b at *
        go_wp2_with (go_at_call 83; refine (findPieceOf s p t _).mono ?_; rintro e w2 ⟨rfl, hb2⟩; rw [HZ.out])
        go_ret2
        exact ⟨by rw [HE.out, HW.out]; rfl, below_step hb hb2⟩
      · have HW : Hid (foundOf (pcBelow t) (pcIs t) xs = false) := Lib.hid (by unfold foundOf; rw [HE.out, List.getElem?_eq_none (by rw [HX.out]; omega)])
        go_wp2_with fail
        go_ret2
        exact ⟨by rw [HE.out, HW.out]; rfl, hb⟩
theorem findPieceC (A : Option Addr) (n c : Nat) (t : Int) (xs : List (Int × ByteArray)) (w : World) (h : Rd w 2 A n (pcs xs)) (hf : Falls (pcBelow t) xs) (hn : n ≤ 4194304) :
    Calls Tryd.prog 68 #[.slice A n c, .int .i64 t] w fun e w' => e = .returned (.tuple #[.int .i64 ((posOf (pcBelow t) xs : Nat) : Int), .bool (foundOf (pcBelow t) (pcIs t) xs)]) ∧ Below w.heap.size w w' := by
  go_enter Tryd.func68, Tryd.ntmps68
  go_wp2_with (go_at_call 82; refine (searchPiece _ _ _ _ _ _ h hf hn).mono ?_; rintro e w2 ⟨rfl, hb2⟩)
  go_ret2
  exact ⟨rfl, hb2⟩
end Go.Proofs.YtjombaiplnebmaaDoor
