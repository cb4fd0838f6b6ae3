/- Contracts of the functions on lists of numbers. -/
import Derived.Test.YtkkihjmlinekfaaWords
import Derived.Test.YtkkihjmlinekfaaPlain
import Derived.Deep.RegionWith
open Go.RowKit
namespace Go.Proofs.Ytkkihjmlinekfaa

theorem int_info : (Try.prog.info? 3).map (fun i => (i.zero, i.size, i.bytes)) = some (some (.int .i64 0), 1, 8) := by kernel_rfl


set_option maxHeartbeats 800000 in
theorem eqIntS (A B : Option Addr) (n m c d : Nat) (xs ys : List Int) (w : World) (ha : Rd w 1 A n (ints xs)) (hb : Rd w 1 B m (ints ys)) (hn : n ≤ 4194304) :
    Calls Try.prog 29 #[.slice A n c, .slice B m d] w fun e w' => e = .returned (.bool (decide (xs = ys))) ∧ ∃ k, w' = w.drewN k := by
  have hxl := ha.intLen
  have hyl := hb.intLen
  by_cases hnm : n = m
  · subst hnm
    have HX := Lib.hid hxl
    have HY := Lib.hid hyl
    clear hxl hyl
    go_enter Try.func29, Try.ntmps29
    go_wp2
    go_loopw [5] (fun i wr => ∃ k : Nat, k ≤ n ∧ i = .int .i64 k ∧ Hid (xs.take k = ys.take k) ∧ ∃ j, wr = w.drewN j) (fun i _ => n - (intOf i).toNat)
    case atStart => exact ⟨0, Nat.zero_le _, rfl, Lib.hid rfl, 0, rfl⟩
    case round =>
      obtain ⟨k, hk, rfl, heq, j, rfl⟩ := hrel
      by_cases hlt : k < n
      · obtain ⟨b, off, x, rfl, _, hx, hc⟩ := ha.intAt hlt
        obtain ⟨b', off', y, rfl, _, hy, hc'⟩ := hb.intAt hlt
        have HX1 := Lib.hid hx
        have HY1 := Lib.hid hy
        clear hx hy
        have hlt' : (k : Int) < (n : Int) := by omega
        by_cases hxy : x = y
        · subst hxy
          go_wp2
          go_quiet (fail)
          go_wp2
          go_roundw
          case rel => exact ⟨k + 1, by omega, by go_num, Lib.hid (by rw [take_snoc HX1.out, take_snoc HY1.out, heq.out]), _, by first | exact rfl | exact World.drewN_drewN _ _ _⟩
          case measure => simp [intOf]; omega
        · go_wp2
          go_quiet (fail)
          go_wp2
          go_ret
          refine ⟨ret_bool (decide_eq_false ?_).symm, _, by first | exact rfl | exact World.drewN_drewN _ _ _⟩
          rintro rfl
          have := HX1.out.symm.trans HY1.out
          exact hxy (by injection this)
      · have hkn : k = n := by omega
        subst hkn
        go_wp2
        go_ret
        refine ⟨ret_bool (decide_eq_true ?_).symm, _, rfl⟩
        have h1 := heq.out
        rwa [List.take_of_length_le (by rw [HX.out]; exact Nat.le_refl _), List.take_of_length_le (by rw [HY.out]; exact Nat.le_refl _)] at h1
  · have hne : ¬ xs = ys := by rintro rfl; omega
    have HN := Lib.hid hne
    clear hne hxl hyl
    go_enter Try.func29, Try.ntmps29
    go_wp2
    go_ret
    exact ⟨ret_bool (decide_eq_false HN.out).symm, 0, rfl⟩

set_option maxHeartbeats 400000 in
theorem printsValid (A : Option Addr) (n c : Nat) (xs : List Int) (w : World) (h : Rd w 1 A n (ints xs)) (hn : n ≤ 4194304) :
    Calls Try.prog 94 #[.slice A n c] w fun e w' => e = .returned (.bool (xs.all printB)) ∧ w = w' := by
  have HX := Lib.hid h.intLen
  go_enter Try.func94, Try.ntmps94
  go_wp2
  go_loop [4, 7] (fun _ i => ∃ k : Nat, k ≤ n ∧ i = .int .i64 k ∧ Hid ((xs.take k).all printB = true)) (fun _ i => n - (intOf i).toNat)
  case atStart => exact ⟨0, Nat.zero_le _, rfl, Lib.hid rfl⟩
  case round =>
    obtain ⟨k, hk, rfl, hall⟩ := hrel
    by_cases hlt : k < n
    · obtain ⟨b, off, x, rfl, _, hx, hc⟩ := h.intAt hlt
      have HX1 := Lib.hid hx
      clear hx
      cases hp : printB x
      · have HP := Lib.hid hp
        clear hp
        go_wp2_with (go_at_call 64; refine (printValid _ _).mono ?_; rintro e w' ⟨rfl, rfl⟩; rw [HP.out])
        go_ret
        exact ⟨ret_bool (all_bad HX1.out HP.out).symm, rfl⟩
      · have HP := Lib.hid hp
        clear hp
        go_wp2_with (go_at_call 64; refine (printValid _ _).mono ?_; rintro e w' ⟨rfl, rfl⟩; rw [HP.out])
        go_round
        case rel => exact ⟨k + 1, by omega, by go_num, Lib.hid (by rw [take_snoc HX1.out, List.all_append, hall.out]; simp [HP.out])⟩
        case measure => simp [intOf]; omega
    · have e := hall.out
      rw [List.take_of_length_le (by rw [HX.out]; omega)] at e
      have HE := Lib.hid e
      clear e hall
      go_wp2
      go_ret
      exact ⟨ret_bool HE.out.symm, rfl⟩
end Go.Proofs.Ytkkihjmlinekfaa
