/- Contracts of the functions on trees: roots, proofs. -/
import Derived.Test.YtgnliaekngbmbaaTree
import Derived.Test.YtgnliaekngbmbaaTreeP
open Go.RowKit
namespace Go.Proofs.Ytgnliaekngbmbaa
def lenV : Value → Nat
  | .slice _ n _ => n
  | _ => 0
theorem rd_head {w : World} {A : Option Addr} {ys : List Int} (h : Rd w 1 A 1 (ints ys)) : ∃ b off x, A = some ⟨b, off, none⟩ ∧ w.cell? ⟨b, off, none⟩ = some (.int .i64 x) ∧ topOf ys = x := by
  obtain ⟨b, off, x, hA, _, hx, hc⟩ := h.intAt (k := 0) (by omega)
  refine ⟨b, off, x, hA, by simpa using hc, ?_⟩
  rw [topOf_short (by rw [h.intLen]; omega)]
  rw [List.headD_eq_head?_getD, List.head?_eq_getElem?, hx]
  rfl
set_option maxHeartbeats 800000 in
theorem implTreeRoot (A : Option Addr) (n c : Nat) (xs : List Int) (w : World) (h : Rd w 1 A n (ints xs)) (hn : n ≤ 4194304) :
    Calls Try.prog 18 #[.slice A n c] w fun e w' => e = .returned (.int .i64 (treeR xs)) ∧ Below w.heap.size w w' := by
  cases hv : leavesV xs
  · have HV := Lib.hid hv
    clear hv
    go_enter Try.func18, Try.ntmps18
    go_wp2_with (go_at_call 59; refine (leavesValid _ _ _ xs _ h hn).mono ?_; rintro e w' ⟨rfl, rfl⟩; rw [HV.out])
    go_ret
    exact ⟨ret_int (treeR_no HV.out).symm, Below.refl _ _⟩
  · obtain ⟨l1, l16⟩ := leavesV_len hv
    rw [h.intLen] at l1 l16
    have HV := Lib.hid hv
    clear hv
    go_enter Try.func18, Try.ntmps18
    go_wp2_with (go_at_call 59; refine (leavesValid _ _ _ xs _ h hn).mono ?_; rintro e w' ⟨rfl, rfl⟩; rw [HV.out])
    go_loopw [3] (fun v wr => ∃ (A' : Option Addr) (n' c' : Nat) (ys : List Int), v = .slice A' n' c' ∧ Rd wr 1 A' n' (ints ys) ∧ 1 ≤ n' ∧ n' ≤ 16 ∧ Hid (topOf ys = topOf xs) ∧ Below w.heap.size w wr) (fun v _ => lenV v)
    case atStart => exact ⟨A, n, c, xs, rfl, h, l1, l16, Lib.hid rfl, Below.refl _ _⟩
    case round =>
      obtain ⟨A', n', c', ys, rfl, hr, h1, h16, htop, hbel⟩ := hrel
      by_cases hlt : 1 < n'
      · have HT := Lib.hid ((topOf_up (xs := ys) (by rw [hr.intLen]; omega)).trans htop.out)
        go_wp2_with (go_at_call 60; refine (levelAbove _ _ _ ys _ hr (by omega)).mono ?_; rintro e w' ⟨v', rfl, ho, hb⟩)
        obtain ⟨A2, c2, rfl, _⟩ := own_slice ho
        go_roundw
        case rel => exact ⟨A2, _, c2, levelUp ys, rfl, Rd.own ho, by omega, by omega, HT.out, hbel.trans (hb.mono hbel.size)⟩
        case measure => simp only [lenV]; omega
      · obtain rfl : n' = 1 := by omega
        obtain ⟨b, off, x, rfl, hc, hx⟩ := rd_head hr
        have HR := Lib.hid ((treeR_yes HV.out).trans (htop.out.symm.trans hx))
        clear hx htop
        go_wp2
        go_ret
        exact ⟨ret_int HR.out.symm, hbel⟩
set_option maxHeartbeats 800000 in
theorem specTreeRoot (A : Option Addr) (n c : Nat) (xs : List Int) (w : World) (h : Rd w 1 A n (ints xs)) (hn : n ≤ 4194304) :
    Calls Try.prog 19 #[.slice A n c] w fun e w' => e = .returned (.int .i64 (treeR xs)) ∧ Below w.heap.size w w' := by
  cases hv : leavesV xs
  · have HV := Lib.hid hv
    clear hv
    go_enter Try.func19, Try.ntmps19
    go_wp2_with (go_at_call 61; refine (l5Valid _ _ _ xs _ h hn).mono ?_; rintro e w' ⟨rfl, rfl⟩; rw [HV.out])
    go_ret
    exact ⟨ret_int (treeR_no HV.out).symm, Below.refl _ _⟩
  · obtain ⟨l1, l16⟩ := leavesV_len hv
    rw [h.intLen] at l1 l16
    have HV := Lib.hid hv
    clear hv
    go_enter Try.func19, Try.ntmps19
    go_wp2_with (go_at_call 61; refine (l5Valid _ _ _ xs _ h hn).mono ?_; rintro e w' ⟨rfl, rfl⟩; rw [HV.out])
    go_loopw [0] (fun v wr => ∃ (A' : Option Addr) (n' c' : Nat) (ys : List Int), v = .slice A' n' c' ∧ Rd wr 1 A' n' (ints ys) ∧ 1 ≤ n' ∧ n' ≤ 16 ∧ Hid (topOf ys = topOf xs) ∧ Below w.heap.size w wr) (fun v _ => lenV v)
    case atStart => exact ⟨A, n, c, xs, rfl, h, l1, l16, Lib.hid rfl, Below.refl _ _⟩
    case round =>
      obtain ⟨A', n', c', ys, rfl, hr, h1, h16, htop, hbel⟩ := hrel
      by_cases hlt : 1 < n'
      · have HT := Lib.hid ((topOf_up (xs := ys) (by rw [hr.intLen]; omega)).trans htop.out)
        go_wp2_with (go_at_call 62; refine (l5Up _ _ _ ys _ hr (by omega)).mono ?_; rintro e w' ⟨v', rfl, ho, hb⟩)
        obtain ⟨A2, c2, rfl, _⟩ := own_slice ho
        go_roundw
        case rel => exact ⟨A2, _, c2, levelUp ys, rfl, Rd.own ho, by omega, by omega, HT.out, hbel.trans (hb.mono hbel.size)⟩
        case measure => simp only [lenV]; omega
      · obtain rfl : n' = 1 := by omega
        obtain ⟨b, off, x, rfl, hc, hx⟩ := rd_head hr
        have HR := Lib.hid ((treeR_yes HV.out).trans (htop.out.symm.trans hx))
        clear hx htop
        go_wp2
        go_ret
        exact ⟨ret_int HR.out.symm, hbel⟩
end Go.Proofs.Ytgnliaekngbmbaa
