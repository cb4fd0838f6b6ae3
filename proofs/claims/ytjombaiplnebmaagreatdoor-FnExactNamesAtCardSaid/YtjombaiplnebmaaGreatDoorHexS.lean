/- Contract of the specification's HexText. -/
import Derived.Test.YtjombaiplnebmaaGreatDoorMpl
import Derived.Test.YtjombaiplnebmaaGreatDoorWords
open Go.RowKit
namespace Go.Proofs.YtjombaiplnebmaaGreatDoor
def hexDs : ByteArray := ⟨#[48, 49, 50, 51, 52, 53, 54, 55, 56, 57, 97, 98, 99, 100, 101, 102]⟩
theorem hexDs_at : ∀ d, d < 16 → hexDs.extract d (d + 1) = ofL [hexC d] := by decide
theorem ofL_app (a b : List UInt8) : ofL a ++ ofL b = ofL (a ++ b) := by
  apply ByteArray.ext
  apply Array.toList_inj.1
  simp [ofL]
def hexP (n : Nat) : List UInt8 := if n < 16 then [] else hexL (n / 16)
theorem ofL_sz (l : List UInt8) : (ofL l).size = l.length := by
  show l.toArray.size = l.length
  rw [List.size_toArray]
theorem hexP_low {n : Nat} (h : n < 16) : hexP n = [] := if_pos h
theorem hexL_hexP (n : Nat) : hexL n = hexP n ++ [hexC (n % 16)] := by
  unfold hexP
  split
  · rename_i h
    rw [hexL_low h, Nat.mod_eq_of_lt h]
    rfl
  · rename_i h
    exact hexL_high h
set_option maxRecDepth 8000 in
set_option maxHeartbeats 800000 in
theorem specHexText (n : Int) (w : World) :
    Calls Tryz.prog 51 #[.int .i64 n] w fun e w' => e = .returned (.string (hexT n)) ∧ w = w' := by
  by_cases h : 0 ≤ n ∧ n ≤ 16777212
  · have hin : inB n 0 16777212 = true := decide_eq_true h
    obtain ⟨m, rfl⟩ := Int.eq_ofNat_of_zero_le h.1
    have hm : m ≤ 16777212 := by omega
    have HT := Lib.hid (hexT_in h.1 h.2)
    clear h
    have hd := hexDs_at (m % 16) (by omega)
    have hx : (⟨#[48, 49, 50, 51, 52, 53, 54, 55, 56, 57, 97, 98, 99, 100, 101, 102]⟩ : ByteArray).extract (m % 16) (m % 16 + 1) = ofL [hexC (m % 16)] := hd
    have hlt : m % 16 < 16 := Nat.mod_lt _ (by decide)
    go_enter Tryz.func51, Tryz.ntmps51
    go_wp2_with (go_at_call 67; refine (l1In _ 0 16777212 _).mono ?_; rintro e w' ⟨rfl, rfl⟩; rw [hin])
    go_loopw [0, 4] (fun a b wr => ∃ (v : Nat) (l : List UInt8), a = .int .i64 (v : Int) ∧ v ≤ 16777212 ∧ b = .string (ofL l) ∧ l.length ≤ 6 ∧ Hid (hexL m = hexP v ++ l) ∧ wr = w) (fun a _ _ => (intOf a).toNat)
    case atStart => exact ⟨m, [hexC (m % 16)], rfl, hm, congrArg Value.string hx, by simp, Lib.hid (hexL_hexP m), rfl⟩
    case round =>
      obtain ⟨v, l, rfl, hv, rfl, hl, HI, rfl⟩ := hrel
      by_cases hv16 : v < 16
      · have HR : Hid (hexL m = l) := Lib.hid (by rw [HI.out, hexP_low hv16]; rfl)
        go_wp2_with fail
        go_ret
        exact ⟨ret_str (by rw [HT.out]; show ofL l = ofL (hexL m); rw [HR.out]), rfl⟩
      · have hd2 := hexDs_at (v / 16 % 16) (Nat.mod_lt _ (by decide))
        have hx2 : (⟨#[48, 49, 50, 51, 52, 53, 54, 55, 56, 57, 97, 98, 99, 100, 101, 102]⟩ : ByteArray).extract (v / 16 % 16) (v / 16 % 16 + 1) = ofL [hexC (v / 16 % 16)] := hd2
        have hlt2 : v / 16 % 16 < 16 := Nat.mod_lt _ (by decide)
        have HN : Hid (hexL m = hexP (v / 16) ++ (hexC (v / 16 % 16) :: l)) := Lib.hid (by
          rw [HI.out]
          show hexP v ++ l = _
          rw [show hexP v = hexL (v / 16) from if_neg hv16, hexL_hexP (v / 16), List.append_assoc]
          rfl)
        have HA : Hid (ofL [hexC (v / 16 % 16)] ++ ofL l = ofL (hexC (v / 16 % 16) :: l)) := Lib.hid (ofL_app _ _)
        have hsz : (ofL [hexC (v / 16 % 16)]).size = 1 := rfl
        have hsz2 : (ofL l).size = l.length := ofL_sz l
        have HL : Hid (l.length < 6) := Lib.hid (by
          have h1 := congrArg List.length HN.out
          have h2 := hexL_len 5 m (by omega)
          rw [List.length_append, List.length_cons] at h1
          omega)
        go_wp2_with fail
        go_roundw
        case rel => exact ⟨v / 16, _, by go_num, by omega, by rw [HA.out], by have := HL.out; rw [List.length_cons]; omega, HN, trivial⟩
        case measure => simp [intOf]; omega
  · have hin : inB n 0 16777212 = false := decide_eq_false h
    have HT := Lib.hid (hexT_out h)
    clear h
    go_enter Tryz.func51, Tryz.ntmps51
    go_wp2_with (go_at_call 67; refine (l1In _ 0 16777212 _).mono ?_; rintro e w' ⟨rfl, rfl⟩; rw [hin])
    go_ret
    exact ⟨ret_str HT.out.symm, rfl⟩
end Go.Proofs.YtjombaiplnebmaaGreatDoor
