/- Contracts of the functions on words and texts. -/
import Derived.Test.YthoiljgpggldcaaProg
import Derived.Test.YthoiljgpggldcaaBase
open Go.RowKit
namespace Go.Proofs.Ythoiljgpggldcaa

theorem textB_yes {c : UInt8} (h1 : 32 ≤ (c.toNat : Int)) (h2 : (c.toNat : Int) ≤ 126) : textB c = true := decide_eq_true ⟨h1, h2⟩
theorem textB_no {c : UInt8} (h : ¬ (32 ≤ (c.toNat : Int) ∧ (c.toNat : Int) ≤ 126)) : textB c = false := decide_eq_false h

set_option maxHeartbeats 400000 in
theorem specTextValid (s : ByteArray) (w : World) (hs : s.size ≤ maxLen) :
    Calls Try.prog 16 #[.string s] w fun e w' => e = .returned (.bool (textV (bts s))) ∧ w = w' := by
  unfold maxLen at hs
  go_enter Try.func16, Try.ntmps16
  go_wp2
  go_loop [3] (fun i => ∃ k : Nat, k ≤ s.size ∧ i = .int .i64 k ∧ AllTo textB s k) (fun i => s.size - (intOf i).toNat)
  case atStart => exact ⟨0, Nat.zero_le _, rfl, AllTo.zero _ _⟩
  case round =>
    obtain ⟨k, hk, rfl, hall⟩ := hrel
    by_cases hlt : k < s.size
    · go_wp2
      · go_ret
        exact ⟨ret_bool (by unfold textV; rw [all_not hlt (textB_no (by omega))]; rfl), rfl⟩
      · go_round
        case rel => exact ⟨k + 1, by omega, by go_num, hall.succ hlt (textB_yes (by omega) (by omega))⟩
        case measure => simp [intOf]; omega
      · go_ret
        exact ⟨ret_bool (by unfold textV; rw [all_not hlt (textB_no (by omega))]; rfl), rfl⟩
    · go_wp2
      go_ret
      exact ⟨ret_bool (by unfold textV; rw [hall.all (by omega), bts_length, Bool.true_and]; congr 1; apply propext; omega), rfl⟩

set_option maxHeartbeats 400000 in
theorem implTextValid (s : ByteArray) (w : World) (hs : s.size ≤ maxLen) :
    Calls Try.prog 15 #[.string s] w fun e w' => e = .returned (.bool (textV (bts s))) ∧ w = w' := by
  unfold maxLen at hs
  by_cases h60 : s.size ≤ 60
  · go_enter Try.func15, Try.ntmps15
    go_wp2
    go_loop [3] (fun i => ∃ k : Nat, k ≤ s.size ∧ i = .int .i64 k ∧ AllTo textB s k) (fun i => s.size - (intOf i).toNat)
    case atStart => exact ⟨0, Nat.zero_le _, rfl, AllTo.zero _ _⟩
    case round =>
      obtain ⟨k, hk, rfl, hall⟩ := hrel
      by_cases hlt : k < s.size
      · go_wp2
        · go_ret
          exact ⟨ret_bool (by unfold textV; rw [all_not hlt (textB_no (by omega))]; rfl), rfl⟩
        · go_round
          case rel => exact ⟨k + 1, by omega, by go_num, hall.succ hlt (textB_yes (by omega) (by omega))⟩
          case measure => simp [intOf]; omega
        · go_ret
          exact ⟨ret_bool (by unfold textV; rw [all_not hlt (textB_no (by omega))]; rfl), rfl⟩
      · go_wp2
        go_ret
        exact ⟨ret_bool (by unfold textV; rw [hall.all (by omega), bts_length, Bool.true_and]; exact (decide_eq_true h60).symm), rfl⟩
  · go_enter Try.func15, Try.ntmps15
    go_wp2
    go_ret
    exact ⟨ret_bool (by unfold textV; rw [bts_length, decide_eq_false h60, Bool.and_false]), rfl⟩

theorem isSmall (c : Int) (w : World) : Calls Try.prog 27 #[.int .u8 c] w fun e w' => e = .returned (.bool (smallB c)) ∧ w = w' := by
  go_enter Try.func27, Try.ntmps27
  go_wp2
  all_goals (go_ret; exact ⟨ret_bool (by unfold smallB; first | (rw [decide_eq_false (by omega)]; done) | (congr 1; apply propext; omega)), rfl⟩)
theorem isDigit (c : Int) (w : World) : Calls Try.prog 26 #[.int .u8 c] w fun e w' => e = .returned (.bool (digitB c)) ∧ w = w' := by
  go_enter Try.func26, Try.ntmps26
  go_wp2
  all_goals (go_ret; exact ⟨ret_bool (by unfold digitB; first | (rw [decide_eq_false (by omega)]; done) | (congr 1; apply propext; omega)), rfl⟩)
theorem l1In (n lo hi : Int) (w : World) : Calls Try.prog 48 #[.int .i64 n, .int .i64 lo, .int .i64 hi] w fun e w' => e = .returned (.bool (inB n lo hi)) ∧ w = w' := by
  go_enter Try.func48, Try.ntmps48
  go_wp2
  all_goals (go_ret; exact ⟨ret_bool (by unfold inB; first | (rw [decide_eq_false (by omega)]; done) | (congr 1; apply propext; omega)), rfl⟩)

set_option maxHeartbeats 400000 in
theorem implWordValid (s : ByteArray) (w : World) (hs : s.size ≤ maxLen) :
    Calls Try.prog 18 #[.string s] w fun e w' => e = .returned (.bool (wordV (bts s))) ∧ w = w' := by
  unfold maxLen at hs
  by_cases hl : 1 ≤ s.size ∧ s.size ≤ 8
  · obtain ⟨h1, h8⟩ := hl
    have hhd := bts_head s (by omega)
    cases hd : digitB (s[0].toNat)
    · have HD := Lib.hid hd
      clear hd
      have HH := Lib.hid hhd
      clear hhd
      go_enter Try.func18, Try.ntmps18
      go_wp2_with (go_at_call 26; refine (isDigit _ _).mono ?_; rintro e w' ⟨rfl, rfl⟩; rw [HD.out])
      go_loop [3] (fun i => ∃ k : Nat, k ≤ s.size ∧ i = .int .i64 k ∧ AllTo wordB s k) (fun i => s.size - (intOf i).toNat)
      case atStart => exact ⟨0, Nat.zero_le _, rfl, AllTo.zero _ _⟩
      case round =>
        obtain ⟨k, hk, rfl, hall⟩ := hrel
        by_cases hlt : k < s.size
        · go_wp2_with (first | (go_at_call 26; refine (isDigit _ _).mono ?_; rintro e w' ⟨rfl, rfl⟩) | (go_at_call 27; refine (isSmall _ _).mono ?_; rintro e w' ⟨rfl, rfl⟩))
          · go_round
            case rel => exact ⟨k + 1, by omega, by go_num, hall.succ hlt (wordB_small (by assumption))⟩
            case measure => simp [intOf]; omega
          · go_ret
            exact ⟨ret_bool (by unfold wordV; rw [all_not hlt (wordB_no (by assumption) (by assumption)), Bool.and_false, Bool.and_false]), rfl⟩
          · go_round
            case rel => exact ⟨k + 1, by omega, by go_num, hall.succ hlt (wordB_digit (by assumption))⟩
            case measure => simp [intOf]; omega
        · go_wp2
          go_ret
          exact ⟨ret_bool (wordV_yes s h1 h8 HH.out HD.out (hall.all (by omega))).symm, rfl⟩
    · have hn : wordV (bts s) = false := by unfold wordV; rw [hhd, digit_not_small hd]; simp
      go_enter Try.func18, Try.ntmps18
      go_wp2_with (go_at_call 26; refine (isDigit _ _).mono ?_; rintro e w' ⟨rfl, rfl⟩; rw [hd])
      go_ret
      exact ⟨ret_bool hn.symm, rfl⟩
  · have hn : wordV (bts s) = false := by unfold wordV; rw [bts_length, decide_eq_false hl]; rfl
    have H := Lib.hid hn
    clear hn
    go_enter Try.func18, Try.ntmps18
    go_wp2
    all_goals (go_ret; exact ⟨ret_bool H.out.symm, rfl⟩)

set_option maxHeartbeats 800000 in
theorem specWordValid (s : ByteArray) (w : World) (hs : s.size ≤ maxLen) :
    Calls Try.prog 47 #[.string s] w fun e w' => e = .returned (.bool (wordV (bts s))) ∧ w = w' := by
  unfold maxLen at hs
  go_enter Try.func47, Try.ntmps47
  go_wp2
  go_loop [3, 4] (fun i _ => ∃ k : Nat, k ≤ s.size ∧ i = .int .i64 k ∧ AllTo wordB s k ∧ Hid (0 < k → ∀ h : 0 < s.size, smallB s[0].toNat = true)) (fun i _ => s.size - (intOf i).toNat)
  case atStart => exact ⟨0, Nat.zero_le _, rfl, AllTo.zero _ _, Lib.hid (fun h => absurd h (by omega))⟩
  case round =>
    obtain ⟨k, hk, rfl, hall, hsm⟩ := hrel
    by_cases hlt : k < s.size
    · by_cases hc : 97 ≤ (s[k].toNat : Int) ∧ (s[k].toNat : Int) ≤ 122
      · obtain ⟨c1, c2⟩ := hc
        have hsm' := spec_word_small hlt hsm.out c1 c2
        clear hsm
        have HS := Lib.hid hsm'
        clear hsm'
        go_wp2
        go_round
        case rel => exact ⟨k + 1, by omega, by go_num, hall.succ hlt (wordB_small (smallB_yes c1 c2)), HS.out⟩
        case measure => simp [intOf]; omega
      · rcases Nat.eq_zero_or_pos k with rfl | hpos
        · have hn := Lib.hid (wordV_bad0 s hlt hc)
          clear hsm hall
          rcases (by omega : (s[0].toNat : Int) < 97 ∨ 122 < (s[0].toNat : Int)) with c1 | c1
          all_goals
            clear hc
            go_wp2
            all_goals first
              | (go_ret; exact ⟨ret_bool hn.out.symm, rfl⟩)
              | (exfalso; have hx : ¬ ((s[0].toNat : Int) ≤ 122) := by omega
                 simp_all)
        · have hk0 : ((k : Int) == 0) = false := by simp; omega
          by_cases hd : 48 ≤ (s[k].toNat : Int) ∧ (s[k].toNat : Int) ≤ 57
          · obtain ⟨c1, c2⟩ := hd
            have HS := Lib.hid (fun (_ : 0 < k + 1) => hsm.out hpos)
            clear hsm hc
            go_wp2
            go_round
            case rel => exact ⟨k + 1, by omega, by go_num, hall.succ hlt (wordB_digit' c1 c2), HS.out⟩
            case measure => simp [intOf]; omega
          · have hn := Lib.hid (wordV_bad hlt hc hd)
            clear hsm hall
            rcases (by omega : (s[k].toNat : Int) < 48 ∨ (57 < (s[k].toNat : Int) ∧ (s[k].toNat : Int) < 97) ∨ 122 < (s[k].toNat : Int)) with c1 | ⟨c1, c2⟩ | c1
            all_goals
              clear hc hd
              go_wp2
              all_goals first
                | (go_ret; exact ⟨ret_bool hn.out.symm, rfl⟩)
                | (exfalso; have hx : ¬ ((s[k].toNat : Int) ≤ 122) := by omega
                   have hy : ¬ ((s[k].toNat : Int) ≤ 57) := by omega
                   simp_all)
    · have hn := Lib.hid (spec_word_end (k := k) (by omega) hall hsm.out)
      clear hsm hall
      go_wp2_with (go_at_call 48; refine (l1In _ _ _ _).mono ?_; rintro e w' ⟨rfl, rfl⟩)
      go_ret
      exact ⟨ret_bool hn.out.symm, rfl⟩

theorem specContentValid (s : ByteArray) (w : World) (hs : s.size ≤ maxLen) :
    Calls Try.prog 43 #[.string s] w fun e w' => e = .returned (.bool (contentV (bts s))) ∧ w = w' := by
  cases ht : textV (bts s)
  all_goals
    have HT := Lib.hid ht
    clear ht
    go_enter Try.func43, Try.ntmps43
    go_wp2_with (go_at_call 16; refine (specTextValid _ _ hs).mono ?_; rintro e w' ⟨rfl, rfl⟩; rw [HT.out])
    go_ret
    exact ⟨ret_bool (contentV_of HT.out).symm, rfl⟩
set_option maxHeartbeats 400000 in
theorem implPrintOf (s : ByteArray) (w : World) (hs : s.size ≤ maxLen) :
    Calls Try.prog 12 #[.string s] w fun e w' => e = .returned (.int .i64 (printP s)) ∧ w = w' := by
  cases ht : textV (bts s)
  · have HT := Lib.hid ht
    clear ht
    go_enter Try.func12, Try.ntmps12
    go_wp2_with (go_at_call 15; refine (implTextValid _ _ hs).mono ?_; rintro e w' ⟨rfl, rfl⟩; rw [HT.out])
    go_ret
    exact ⟨ret_int (printP_no HT.out).symm, rfl⟩
  · have HT := Lib.hid ht
    clear ht
    have hb := hs
    unfold maxLen at hb
    go_enter Try.func12, Try.ntmps12
    go_wp2_with (go_at_call 15; refine (implTextValid _ _ hs).mono ?_; rintro e w' ⟨rfl, rfl⟩; rw [HT.out])
    go_loop [3, 4] (fun x i => ∃ k : Nat, k ≤ s.size ∧ i = .int .i64 k ∧ x = .int .i64 (printTo ((bts s).take k))) (fun _ i => s.size - (intOf i).toNat)
    case atStart => exact ⟨0, Nat.zero_le _, rfl, rfl⟩
    case round =>
      obtain ⟨k, hk, rfl, rfl⟩ := hrel
      by_cases hlt : k < s.size
      · obtain ⟨p0, p1⟩ := printTo_bd ((bts s).take k)
        have hc := byte_bd s[k]
        have HS := Lib.hid (printTo_snoc hlt)
        generalize printTo ((bts s).take k) = x at *
        go_wp2
        go_round
        case rel => exact ⟨k + 1, by omega, by go_num, by rw [HS.out]⟩
        case measure => simp [intOf]; omega
      · have HE := Lib.hid (printTo_end (s := s) (k := k) (by omega))
        generalize printTo ((bts s).take k) = x at *
        go_wp2
        go_ret
        exact ⟨ret_int (HE.out.trans (printP_yes HT.out).symm), rfl⟩
set_option maxHeartbeats 400000 in
theorem specPrintOf (s : ByteArray) (w : World) (hs : s.size ≤ maxLen) :
    Calls Try.prog 17 #[.string s] w fun e w' => e = .returned (.int .i64 (printP s)) ∧ w = w' := by
  cases ht : textV (bts s)
  · have HT := Lib.hid ht
    clear ht
    go_enter Try.func17, Try.ntmps17
    go_wp2_with (go_at_call 16; refine (specTextValid _ _ hs).mono ?_; rintro e w' ⟨rfl, rfl⟩; rw [HT.out])
    go_ret
    exact ⟨ret_int (printP_no HT.out).symm, rfl⟩
  · have HT := Lib.hid ht
    clear ht
    have hb := hs
    unfold maxLen at hb
    go_enter Try.func17, Try.ntmps17
    go_wp2_with (go_at_call 16; refine (specTextValid _ _ hs).mono ?_; rintro e w' ⟨rfl, rfl⟩; rw [HT.out])
    go_loop [3, 4] (fun x i => ∃ k : Nat, k ≤ s.size ∧ i = .int .i64 k ∧ x = .int .i64 (printTo ((bts s).take k))) (fun _ i => s.size - (intOf i).toNat)
    case atStart => exact ⟨0, Nat.zero_le _, rfl, rfl⟩
    case round =>
      obtain ⟨k, hk, rfl, rfl⟩ := hrel
      by_cases hlt : k < s.size
      · obtain ⟨p0, p1⟩ := printTo_bd ((bts s).take k)
        have hc := byte_bd s[k]
        have HS := Lib.hid (printTo_snoc hlt)
        generalize printTo ((bts s).take k) = x at *
        go_wp2
        go_round
        case rel => exact ⟨k + 1, by omega, by go_num, by rw [HS.out, Int.mul_comm]⟩
        case measure => simp [intOf]; omega
      · have HE := Lib.hid (printTo_end (s := s) (k := k) (by omega))
        generalize printTo ((bts s).take k) = x at *
        go_wp2
        go_ret
        exact ⟨ret_int (HE.out.trans (printP_yes HT.out).symm), rfl⟩
theorem specFileText (s : ByteArray) (w : World) (hs : s.size ≤ maxLen) : Calls Try.prog 45 #[.string s] w fun e w' => e = .returned (.string (fileT s)) ∧ w = w' := by
  by_cases hc : contentV (bts s) = true
  · have h40 := contentV_size hc
    have HC := Lib.hid hc
    clear hc
    go_enter Try.func45, Try.ntmps45
    go_wp2_with (go_at_call 43; refine (specContentValid _ _ hs).mono ?_; rintro e w' ⟨rfl, rfl⟩; rw [HC.out])
    go_ret
    exact ⟨ret_str (fileT_yes HC.out).symm, rfl⟩
  · have HC := Lib.hid (eq_false_of_ne_true hc)
    clear hc
    go_enter Try.func45, Try.ntmps45
    go_wp2_with (go_at_call 43; refine (specContentValid _ _ hs).mono ?_; rintro e w' ⟨rfl, rfl⟩; rw [HC.out])
    go_ret
    exact ⟨ret_str (fileT_no HC.out).symm, rfl⟩
theorem alive (w : World) : Calls Try.prog 8 #[] w fun e w' => e = .returned (.bool true) ∧ w = w' := by
  have h1 : Hid (wordV (bts ⟨#[97, 49]⟩) = true) := Lib.hid (by rfl)
  have h2 : Hid (wordV (bts ⟨#[49, 97]⟩) = false) := Lib.hid (by rfl)
  go_enter Try.func8, Try.ntmps8
  go_wp2_with (go_at_call 18; refine (implWordValid _ _ (by decide)).mono ?_; rintro e w' ⟨rfl, rfl⟩; first | rw [h1.out] | rw [h2.out])
  go_ret
  exact ⟨rfl, rfl⟩
end Go.Proofs.Ythoiljgpggldcaa
