/- Contracts of both ReadHex. -/
import Derived.Test.YtjombaiplnebmaaGreatDoorReadHP
import Derived.Test.YtjombaiplnebmaaGreatDoorHexS
import Derived.Test.YtjombaiplnebmaaGreatDoorHexI
open Go.RowKit
namespace Go.Proofs.YtjombaiplnebmaaGreatDoor
theorem toList_eqh {x y : ByteArray} (h : ¬ x = y) : (x.toList == y.toList) = false := by
  rw [beq_eq_false_iff_ne]
  intro e
  rw [Lib.toList_data, Lib.toList_data] at e
  exact h (ByteArray.ext (Array.toList_inj.1 e))
theorem ret_num {a b : Int} (h : a = b) : Ending.returned (.int .i64 a) = Ending.returned (.int .i64 b) := by rw [h]
set_option maxRecDepth 8000 in
set_option maxHeartbeats 1600000 in
theorem implReadHex (s : ByteArray) (w : World) (hs : s.size ≤ maxLen) (hcell : w.cell? ⟨5, 15, none⟩ = some (.int .u8 4)) :
    Calls Tryz.prog 54 #[.string s] w fun e w' => e = .returned (.int .i64 (readH s)) ∧ Below w.heap.size w w' := by
  unfold maxLen at hs
  by_cases hl : 1 ≤ s.size ∧ s.size ≤ 6
  · obtain ⟨h1, h6⟩ := hl
    go_enter Tryz.func54, Tryz.ntmps54
    go_wp2_with fail
    go_loop [3, 4] (fun n i => ∃ (v k : Nat), k ≤ s.size ∧ n = .int .i64 (v : Int) ∧ i = .int .i64 (k : Int) ∧ Hid (HexTo s k v)) (fun _ i => s.size - (intOf i).toNat)
    case atStart => exact ⟨0, 0, Nat.zero_le _, rfl, rfl, Lib.hid (HexTo.zero s)⟩
    case round =>
      obtain ⟨v, k, hk, rfl, rfl, HV⟩ := hrel
      have hv7 : v < 268435456 := HV.out.le7 (by omega)
      by_cases hlt : k < s.size
      · by_cases hd : 48 ≤ s[k].toNat ∧ s[k].toNat ≤ 57
        · have hd' := dig_true hd
          obtain ⟨hx, hvc, _, _⟩ := hex_dig hd'
          have HN : Hid (HexTo s (k + 1) (v * 16 + (s[k].toNat - 48))) := Lib.hid (by have := HV.out.succ hlt hx; rw [hvc] at this; exact this)
          clear hx hvc
          go_wp2_with (go_at_call 69; refine (isDigit _ _).mono ?_; rintro e w' ⟨rfl, rfl⟩; rw [hd'])
          go_round
          case rel => exact ⟨_, k + 1, by omega, by go_num, by go_num, HN⟩
          case measure => simp [intOf]; omega
        · have hd' := dig_false hd
          by_cases hlo : 97 ≤ s[k].toNat ∧ s[k].toNat ≤ 102
          · obtain ⟨hl1, hl2⟩ := hlo
            obtain ⟨hx, hvc⟩ := hex_low hl1 hl2
            have HN : Hid (HexTo s (k + 1) (v * 16 + (s[k].toNat - 87))) := Lib.hid (by have := HV.out.succ hlt hx; rw [hvc] at this; exact this)
            clear hx hvc
            go_wp2_with (go_at_call 69; refine (isDigit _ _).mono ?_; rintro e w' ⟨rfl, rfl⟩; rw [hd'])
            go_round
            case rel => exact ⟨_, k + 1, by omega, by go_num, by go_num, HN⟩
            case measure => simp [intOf]; omega
          · have HB := Lib.hid (readH_bad hlt (hex_not hd' hlo))
            go_wp2_with (go_at_call 69; refine (isDigit _ _).mono ?_; rintro e w' ⟨rfl, rfl⟩; rw [hd'])
            all_goals first | omega | skip
            all_goals
              go_ret
              exact ⟨ret_num HB.out.symm, Below.refl _ _⟩
      · obtain rfl : k = s.size := by omega
        by_cases he : hexT (v : Int) = s
        · have HR := Lib.hid (readH_same h1 HV.out he)
          have heq : (s.toList != s.toList) = false := by simp
          have HE := Lib.hid he
          clear he
          go_wp2_with (go_at_call 70; refine (implHexText _ _ hcell).mono ?_; rintro e w' ⟨rfl, hb⟩; rw [HE.out])
          go_ret
          exact ⟨ret_num HR.out.symm, hb⟩
        · have HR := Lib.hid (readH_other HV.out he)
          have heq2 := toList_eqh he
          have heq : ((hexT (v : Int)).toList != s.toList) = true := by rw [bne, heq2]; rfl
          clear he
          go_wp2_with (go_at_call 70; refine (implHexText _ _ hcell).mono ?_; rintro e w' ⟨rfl, hb⟩)
          go_ret
          exact ⟨ret_num HR.out.symm, hb⟩
  · have HR := Lib.hid (readH_long hl)
    go_enter Tryz.func54, Tryz.ntmps54
    by_cases h0 : s.size < 1
    · go_wp2_with fail
      go_ret
      exact ⟨ret_num HR.out.symm, Below.refl _ _⟩
    · have h6 : 6 < s.size := by omega
      clear hl
      go_wp2_with fail
      go_ret
      exact ⟨ret_num HR.out.symm, Below.refl _ _⟩
set_option maxRecDepth 8000 in
set_option maxHeartbeats 1600000 in
theorem specReadHex (s : ByteArray) (w : World) (hs : s.size ≤ maxLen) :
    Calls Tryz.prog 37 #[.string s] w fun e w' => e = .returned (.int .i64 (readH s)) ∧ w = w' := by
  unfold maxLen at hs
  go_enter Tryz.func37, Tryz.ntmps37
  go_wp2_with fail
  go_loop [3, 4] (fun n i => ∃ (v k : Nat), k ≤ s.size ∧ k ≤ 7 ∧ n = .int .i64 (v : Int) ∧ i = .int .i64 (k : Int) ∧ Hid (HexTo s k v)) (fun _ i => s.size - (intOf i).toNat)
  case atStart => exact ⟨0, 0, Nat.zero_le _, Nat.zero_le _, rfl, rfl, Lib.hid (HexTo.zero s)⟩
  case round =>
    obtain ⟨v, k, hk, hk7, rfl, rfl, HV⟩ := hrel
    have hv7 : v < 268435456 := HV.out.le7 hk7
    by_cases hlt : k < s.size
    · by_cases hlt7 : k < 7
      · by_cases hd : 48 ≤ s[k].toNat ∧ s[k].toNat ≤ 57
        · have hd' := dig_true hd
          obtain ⟨hx, hvc, _, _⟩ := hex_dig hd'
          have HN : Hid (HexTo s (k + 1) (v * 16 + (s[k].toNat - 48))) := Lib.hid (by have := HV.out.succ hlt hx; rw [hvc] at this; exact this)
          clear hx hvc hd'
          obtain ⟨hd1, hd2⟩ := hd
          go_wp2_with fail
          go_round
          case rel => exact ⟨_, k + 1, by omega, by omega, by go_num, by go_num, HN⟩
          case measure => simp [intOf]; omega
        · have hd' := dig_false hd
          by_cases hlo : 97 ≤ s[k].toNat ∧ s[k].toNat ≤ 102
          · obtain ⟨hl1, hl2⟩ := hlo
            obtain ⟨hx, hvc⟩ := hex_low hl1 hl2
            have HN : Hid (HexTo s (k + 1) (v * 16 + (s[k].toNat - 87))) := Lib.hid (by have := HV.out.succ hlt hx; rw [hvc] at this; exact this)
            clear hx hvc hd'
            go_wp2_with fail
            go_round
            case rel => exact ⟨_, k + 1, by omega, by omega, by go_num, by go_num, HN⟩
            case measure => simp [intOf]; omega
          · have HB := Lib.hid (readH_bad hlt (hex_not hd' hlo))
            clear hd'
            go_wp2_with fail
            all_goals first | omega | skip
            all_goals
              go_ret
              exact ⟨ret_num HB.out.symm, rfl⟩
      · obtain rfl : k = 7 := by omega
        have hne : ¬ hexT (v : Int) = s := fun h => by
          have := hexT_size (v : Int)
          rw [h] at this
          omega
        have HR := Lib.hid (readH_long (s := s) (by omega))
        have heq2 := toList_eqh hne
        have heq : ((hexT (v : Int)).toList != s.toList) = true := by rw [bne, heq2]; rfl
        have hem : s.toList.isEmpty = false := by
          rw [Lib.toList_data, ← Bool.not_eq_true]
          intro h
          have : s.data.toList.length = 0 := by rw [List.isEmpty_iff.1 h]; rfl
          rw [Array.length_toList] at this
          have : s.size = 0 := this
          omega
        clear hne
        go_wp2_with (go_at_call 51; refine (specHexText _ _).mono ?_; rintro e w' ⟨rfl, rfl⟩)
        go_ret
        exact ⟨ret_num HR.out.symm, rfl⟩
    · obtain rfl : k = s.size := by omega
      by_cases h0 : s.size = 0
      · have hs0 : s = ⟨#[]⟩ := ByteArray.ext (Array.eq_empty_of_size_eq_zero h0)
        have HR := Lib.hid (readH_long (s := s) (by omega))
        have hem : s.toList.isEmpty = true := by rw [hs0, Lib.toList_data]; rfl
        clear hs0 h0
        go_wp2_with (go_at_call 51; refine (specHexText _ _).mono ?_; rintro e w' ⟨rfl, rfl⟩)
        go_ret
        exact ⟨ret_num HR.out.symm, rfl⟩
      · have hem : s.toList.isEmpty = false := by
          rw [Lib.toList_data, ← Bool.not_eq_true]
          intro h
          have : s.data.toList.length = 0 := by rw [List.isEmpty_iff.1 h]; rfl
          rw [Array.length_toList] at this
          exact h0 this
        by_cases he : hexT (v : Int) = s
        · have HR := Lib.hid (readH_same (by omega) HV.out he)
          have heq : (s.toList != s.toList) = false := by simp
          have HE := Lib.hid he
          clear he
          go_wp2_with (go_at_call 51; refine (specHexText _ _).mono ?_; rintro e w' ⟨rfl, rfl⟩; rw [HE.out])
          go_ret
          exact ⟨ret_num HR.out.symm, rfl⟩
        · have HR := Lib.hid (readH_other HV.out he)
          have heq2 := toList_eqh he
          have heq : ((hexT (v : Int)).toList != s.toList) = true := by rw [bne, heq2]; rfl
          clear he
          go_wp2_with (go_at_call 51; refine (specHexText _ _).mono ?_; rintro e w' ⟨rfl, rfl⟩)
          go_ret
          exact ⟨ret_num HR.out.symm, rfl⟩
end Go.Proofs.YtjombaiplnebmaaGreatDoor
