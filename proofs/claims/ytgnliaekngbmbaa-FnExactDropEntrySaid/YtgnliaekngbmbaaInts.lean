/- Contracts of the functions on lists of numbers. -/
import Derived.Test.YtgnliaekngbmbaaWords
import Derived.Test.YtgnliaekngbmbaaPlain
import Derived.Deep.RegionWith
open Go.RowKit
namespace Go.Proofs.Ytgnliaekngbmbaa

theorem int_info : (Try.prog.info? 3).map (fun i => (i.zero, i.size, i.bytes)) = some (some (.int .i64 0), 1, 8) := by kernel_rfl



set_option maxHeartbeats 400000 in
theorem printsValid (A : Option Addr) (n c : Nat) (xs : List Int) (w : World) (h : Rd w 1 A n (ints xs)) (hn : n ≤ 4194304) :
    Calls Try.prog 93 #[.slice A n c] w fun e w' => e = .returned (.bool (xs.all printB)) ∧ w = w' := by
  have HX := Lib.hid h.intLen
  go_enter Try.func93, Try.ntmps93
  go_wp2
  go_loop [4, 7] (fun _ i => ∃ k : Nat, k ≤ n ∧ i = .int .i64 k ∧ Hid ((xs.take k).all printB = true)) (fun _ i => n - (intOf i).toNat)
  case atStart => exact ⟨0, Nat.zero_le _, rfl, Lib.hid rfl⟩
  case round =>
    obtain ⟨k, hk, rfl, hall⟩ := hrel
    by_cases hlt : k < n
    · obtain ⟨b, off, x, rfl, _, hx, hc⟩ := h.intAt hlt
      have HX1 := Lib.hid hx
      clear hx
      cases hp : printB x
      · have HP := Lib.hid hp
        clear hp
        go_wp2_with (go_at_call 55; refine (printValid _ _).mono ?_; rintro e w' ⟨rfl, rfl⟩; rw [HP.out])
        go_ret
        exact ⟨ret_bool (all_bad HX1.out HP.out).symm, rfl⟩
      · have HP := Lib.hid hp
        clear hp
        go_wp2_with (go_at_call 55; refine (printValid _ _).mono ?_; rintro e w' ⟨rfl, rfl⟩; rw [HP.out])
        go_round
        case rel => exact ⟨k + 1, by omega, by go_num, Lib.hid (by rw [take_snoc HX1.out, List.all_append, hall.out]; simp [HP.out])⟩
        case measure => simp [intOf]; omega
    · have e := hall.out
      rw [List.take_of_length_le (by rw [HX.out]; omega)] at e
      have HE := Lib.hid e
      clear e hall
      go_wp2
      go_ret
      exact ⟨ret_bool HE.out.symm, rfl⟩
end Go.Proofs.Ytgnliaekngbmbaa
