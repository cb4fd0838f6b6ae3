/- Contract of the program's JoinPath. -/
import Derived.Test.YtjombaiplnebmaaGreatDoorPathJ
import Derived.Test.YtjombaiplnebmaaGreatDoorMsh
open Go.RowKit
namespace Go.Proofs.YtjombaiplnebmaaGreatDoor
theorem join_le (xs : List ByteArray) (h : xs.length ≤ 3) (hw : ∀ x ∈ xs, x.size ≤ 8) : (Lib.join (xs.map (·.data.toList)) [47]).length ≤ 27 := by
  have key : ∀ x : ByteArray, x ∈ xs → x.data.toList.length ≤ 8 := fun x hx => by rw [Array.length_toList]; exact hw x hx
  match xs, h, key with
  | [], _, _ => simp [Lib.join_nil]
  | [a], _, k => rw [List.map_cons, List.map_nil, Lib.join_one]; have := k a (by simp); omega
  | [a, b], _, k =>
    rw [List.map_cons, Lib.join_cons]
    have h1 := k a (by simp)
    have h2 := k b (by simp)
    simp [Lib.joinTail] at h1 h2 ⊢
    omega
  | [a, b, c], _, k =>
    rw [List.map_cons, Lib.join_cons]
    have h1 := k a (by simp)
    have h2 := k b (by simp)
    have h3 := k c (by simp)
    simp [Lib.joinTail] at h1 h2 h3 ⊢
    omega
  | a :: b :: c :: d :: r, h, _ => simp at h
set_option maxHeartbeats 1600000 in
theorem implJoinPath (A : Option Addr) (n c : Nat) (xs : List ByteArray) (w : World) (h : Rd w 1 A n (strs xs)) (hc : n ≤ c) (hs : ∀ x ∈ xs, x.size ≤ maxLen) (hn : n ≤ 4194304) :
    Calls Tryz.prog 45 #[.slice A n c] w fun e w' => e = .returned (.string (joinP xs)) ∧ Below w.heap.size w w' := by
  have HL := Lib.hid h.strLen
  have HS := Lib.hid hs
  clear hs
  by_cases hb : 3 < n
  · have HJ := Lib.hid (joinP_long (xs := xs) (by rw [HL.out]; exact hb))
    go_enter Tryz.func45, Tryz.ntmps45
    go_wp2
    go_ret
    exact ⟨by rw [HJ.out]; rfl, Below.refl _ _⟩
  · go_enter Tryz.func45, Tryz.ntmps45
    go_wp2
    go_loop [4, 10] (fun _ i => ∃ k : Nat, k ≤ n ∧ i = .int .i64 (k : Int) ∧ Hid (∀ j x, j < k → xs[j]? = some x → wordV (bts x) = true)) (fun _ i => n - (intOf i).toNat)
    case atStart => exact ⟨0, Nat.zero_le _, rfl, Lib.hid (fun j _ hj => by omega)⟩
    case round =>
      obtain ⟨k, hk, rfl, HB⟩ := hrel
      by_cases hlt : k < n
      · obtain ⟨b, off, x, rfl, _, hx, hcx⟩ := h.strAt hlt
        have hxm := HS.out x (List.mem_of_getElem? hx)
        cases hw : wordV (bts x)
        · have HJ := Lib.hid (joinP_bad hx hw)
          have HW := Lib.hid hw
          clear hx hw
          go_wp2_with (go_at_call 59; refine (implWordValid _ _ hxm).mono ?_; rintro e w' ⟨rfl, rfl⟩; rw [HW.out])
          go_ret
          exact ⟨by rw [HJ.out]; rfl, Below.refl _ _⟩
        · have HW := Lib.hid hw
          have HB' : Hid (∀ j y, j < k + 1 → xs[j]? = some y → wordV (bts y) = true) := Lib.hid (fun j y hj hy => by
            rcases Nat.lt_or_ge j k with h1 | h1
            · exact HB.out j y h1 hy
            · obtain rfl : j = k := by omega
              rw [hx] at hy
              obtain rfl := Option.some.inj hy
              exact hw)
          clear hx hw
          go_wp2_with (go_at_call 59; refine (implWordValid _ _ hxm).mono ?_; rintro e w' ⟨rfl, rfl⟩; rw [HW.out])
          go_round
          case rel => exact ⟨k + 1, by omega, by go_num, HB'⟩
          case measure => simp [intOf]; omega
      · obtain rfl : k = n := by omega
        have hall : ∀ x ∈ xs, wordV (bts x) = true := fun x hx => by
          obtain ⟨j, hj⟩ := List.getElem?_of_mem hx
          obtain ⟨hjl, _⟩ := List.getElem?_eq_some_iff.1 hj
          exact HB.out j x (by rw [HL.out] at hjl; omega) hj
        have hjo := joinP_ok (xs := xs) (by rw [HL.out]; omega) hall
        have hle := join_le xs (by rw [HL.out]; omega) (fun x hx => (wordV_size (hall x hx)).2)
        by_cases hz : k = 0
        · have hxs : xs = [] := List.eq_nil_of_length_eq_zero (by rw [HL.out]; exact hz)
          rw [if_pos hxs] at hjo
          have HJ := Lib.hid hjo
          subst hz
          clear hxs hall hjo hle
          go_wp2_with (go_at_call 60; refine (Tryz.strings_Join_none _ _ _ _).mono ?_; rintro e w' ⟨rfl, rfl⟩)
          go_ret
          exact ⟨by rw [HJ.out]; rfl, Below.refl _ _⟩
        · have hne : xs ≠ [] := fun e => by have := HL.out; rw [e] at this; simp at this; omega
          rw [if_neg hne, ← slB_join xs hne] at hjo
          obtain ⟨bb, off, rfl, hbb, hcell⟩ := h.2 (by omega)
          have hJC : Calls Tryz.prog 60 #[.slice (some ⟨bb, off, none⟩) k c, .string ⟨#[47]⟩] w fun e w' => e = .returned (.string ⟨(Lib.join (xs.map (·.data.toList)) [47]).toArray⟩) ∧ Below w.heap.size w w' := by
            have hl := HL.out
            subst hl
            refine Tryz.strings_Join bb off c xs ⟨#[47]⟩ w (fun j x hj => hcell j _ ?_) hbb (by omega) hc (by show (Lib.join _ [47]).length ≤ _; omega)
            unfold strs
            rw [List.getElem?_map, hj]
            rfl
          have hsz : (⟨(Lib.join (xs.map (·.data.toList)) [47]).toArray⟩ : ByteArray).size ≤ 27 := by
            show (Lib.join (xs.map (·.data.toList)) [47]).toArray.size ≤ 27
            rw [List.size_toArray]
            exact hle
          have HJ := Lib.hid hjo
          have HC := Lib.hid hJC
          clear hne hall hz hjo hle hJC hcell
          generalize (⟨(Lib.join (xs.map (·.data.toList)) [47]).toArray⟩ : ByteArray) = J at *
          go_wp2_with (go_at_call 60; refine HC.out.mono ?_; rintro e w' ⟨rfl, hb'⟩)
          go_ret
          exact ⟨by rw [HJ.out]; rfl, hb'⟩
end Go.Proofs.YtjombaiplnebmaaGreatDoor
