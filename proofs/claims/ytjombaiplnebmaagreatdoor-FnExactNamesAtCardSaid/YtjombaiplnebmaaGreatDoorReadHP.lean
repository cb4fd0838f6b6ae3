/- Plain words: what reading a hexadecimal number comes to. -/
import Derived.Test.YtjombaiplnebmaaGreatDoorMpl
open Go.RowKit
namespace Go.Proofs.YtjombaiplnebmaaGreatDoor
theorem hex_dig {c : UInt8} (h : digitB c.toNat = true) : isHex c = true ∧ valC c = c.toNat - 48 ∧ 48 ≤ c.toNat ∧ c.toNat ≤ 57 := by
  have h2 : (48 : Int) ≤ c.toNat ∧ (c.toNat : Int) ≤ 57 := of_decide_eq_true h
  refine ⟨by unfold isHex; rw [h]; rfl, if_pos h, by omega, by omega⟩
theorem hex_low {c : UInt8} (h1 : 97 ≤ c.toNat) (h2 : c.toNat ≤ 102) : isHex c = true ∧ valC c = c.toNat - 87 := by
  have hl : lowB c.toNat = true := decide_eq_true ⟨by omega, by omega⟩
  have hd : ¬ digitB c.toNat = true := fun h => by
    have := (hex_dig h).2.2.2
    omega
  exact ⟨by unfold isHex; rw [hl, Bool.or_true], if_neg hd⟩
theorem hex_not {c : UInt8} (h : digitB c.toNat = false) (h2 : ¬ (97 ≤ c.toNat ∧ c.toNat ≤ 102)) : isHex c = false := by
  have hl : lowB c.toNat = false := decide_eq_false fun h => h2 ⟨by omega, by omega⟩
  unfold isHex
  rw [h, hl]
  rfl
theorem dig_false {c : UInt8} (h : ¬ (48 ≤ c.toNat ∧ c.toNat ≤ 57)) : digitB c.toNat = false := decide_eq_false fun h2 => h ⟨by omega, by omega⟩
theorem dig_true {c : UInt8} (h : 48 ≤ c.toNat ∧ c.toNat ≤ 57) : digitB c.toNat = true := decide_eq_true ⟨by omega, by omega⟩
theorem valC_lt {c : UInt8} (h : isHex c = true) : valC c < 16 := by
  by_cases hd : digitB c.toNat = true
  · obtain ⟨_, h2, _, h4⟩ := hex_dig hd
    omega
  · have hd' : digitB c.toNat = false := by simpa using hd
    by_cases h2 : 97 ≤ c.toNat ∧ c.toNat ≤ 102
    · rw [(hex_low h2.1 h2.2).2]
      omega
    · rw [hex_not hd' h2] at h
      cases h
/-- The number of the first k bytes, all of them hexadecimal. -/
structure HexTo (s : ByteArray) (k v : Nat) : Prop where
  val : v = valL (s.data.toList.take k)
  hex : (s.data.toList.take k).all isHex = true
  lt : v < 16 ^ k
theorem HexTo.zero (s : ByteArray) : HexTo s 0 0 := ⟨rfl, rfl, by decide⟩
theorem byte_at {s : ByteArray} {k : Nat} (h : k < s.size) : s.data.toList[k]? = some s[k] := by
  have hk : k < s.data.toList.length := by rw [Array.length_toList]; exact h
  rw [List.getElem?_eq_getElem hk]
  rfl
theorem HexTo.succ {s : ByteArray} {k v : Nat} (h : HexTo s k v) (hk : k < s.size) (hx : isHex s[k] = true) : HexTo s (k + 1) (v * 16 + valC s[k]) := by
  have e := take_snoc (byte_at hk)
  have hv := valC_lt hx
  have := h.lt
  exact ⟨by rw [e, valL_snoc, ← h.val], by rw [e, List.all_append, h.hex]; simp [hx], by rw [Nat.pow_succ]; omega⟩
theorem HexTo.le7 {s : ByteArray} {k v : Nat} (h : HexTo s k v) (hk : k ≤ 7) : v < 268435456 :=
  Nat.lt_of_lt_of_le h.lt (Nat.le_trans (Nat.pow_le_pow_right (by decide) hk) (by decide))
theorem take_full (s : ByteArray) : s.data.toList.take s.size = s.data.toList := List.take_of_length_le (Nat.le_of_eq (Array.length_toList ..))
theorem readH_bad {s : ByteArray} {k : Nat} (hk : k < s.size) (hx : isHex s[k] = false) : readH s = -1 := if_neg fun g => by
  have := List.all_eq_true.1 g.2.2.1 s[k] (List.mem_of_getElem? (byte_at hk))
  rw [hx] at this
  cases this
theorem readH_long {s : ByteArray} (h : ¬ (1 ≤ s.size ∧ s.size ≤ 6)) : readH s = -1 := if_neg fun g => h ⟨g.1, g.2.1⟩
theorem readH_same {s : ByteArray} {v : Nat} (h1 : 1 ≤ s.size) (h : HexTo s s.size v) (he : hexT v = s) : readH s = v := by
  have e := h.val
  rw [take_full] at e
  have hx := h.hex
  rw [take_full] at hx
  have h6 := hexT_size (v : Int)
  rw [he] at h6
  unfold readH
  rw [← e, if_pos ⟨h1, h6, hx, he⟩]
theorem readH_other {s : ByteArray} {v : Nat} (h : HexTo s s.size v) (he : ¬ hexT v = s) : readH s = -1 := if_neg fun g => by
  have e := h.val
  rw [take_full] at e
  rw [e] at he
  exact he g.2.2.2
end Go.Proofs.YtjombaiplnebmaaGreatDoor
