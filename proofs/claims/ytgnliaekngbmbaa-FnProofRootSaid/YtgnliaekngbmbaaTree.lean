/- Contracts of the functions on trees. -/
import Derived.Test.YtgnliaekngbmbaaInts
import Derived.Test.YtgnliaekngbmbaaAppend
import Derived.Deep.RegionLaw
open Go.RowKit
namespace Go.Proofs.Ytgnliaekngbmbaa
theorem leavesValid (A : Option Addr) (n c : Nat) (xs : List Int) (w : World) (h : Rd w 1 A n (ints xs)) (hn : n ≤ 4194304) :
    Calls Try.prog 59 #[.slice A n c] w fun e w' => e = .returned (.bool (leavesV xs)) ∧ w = w' := by
  have HX := Lib.hid h.intLen
  by_cases hl : 1 ≤ n ∧ n ≤ 16
  · obtain ⟨l1, l16⟩ := hl
    have H := Lib.hid (show leavesV xs = xs.all printB by unfold leavesV; rw [decide_eq_true (by rw [HX.out]; omega), Bool.true_and])
    go_enter Try.func59, Try.ntmps59
    go_wp2_with (go_at_call 93; refine (printsValid _ _ _ xs _ h hn).mono ?_; rintro e w' ⟨rfl, rfl⟩)
    go_ret
    exact ⟨ret_bool H.out.symm, rfl⟩
  · have H := Lib.hid (show leavesV xs = false by unfold leavesV; rw [decide_eq_false (by rw [HX.out]; exact hl), Bool.false_and])
    go_enter Try.func59, Try.ntmps59
    go_wp2
    all_goals (go_ret; exact ⟨ret_bool H.out.symm, rfl⟩)
theorem l5Valid (A : Option Addr) (n c : Nat) (xs : List Int) (w : World) (h : Rd w 1 A n (ints xs)) (hn : n ≤ 4194304) :
    Calls Try.prog 61 #[.slice A n c] w fun e w' => e = .returned (.bool (leavesV xs)) ∧ w = w' := by
  have HX := Lib.hid h.intLen
  go_enter Try.func61, Try.ntmps61
  go_wp2
  go_loop [3] (fun i => ∃ k : Nat, k ≤ n ∧ i = .int .i64 k ∧ Hid ((xs.take k).all printB = true)) (fun i => n - (intOf i).toNat)
  case atStart => exact ⟨0, Nat.zero_le _, rfl, Lib.hid rfl⟩
  case round =>
    obtain ⟨k, hk, rfl, hall⟩ := hrel
    by_cases hlt : k < n
    · obtain ⟨b, off, x, rfl, _, hx, hc⟩ := h.intAt hlt
      have HX1 := Lib.hid hx
      clear hx
      have hpi : inB x 0 16777212 = printB x := rfl
      cases hp : printB x
      · have HP := Lib.hid (hpi.trans hp)
        have HB := Lib.hid hp
        clear hp hpi
        go_wp2_with (go_at_call 57; refine (l1In _ _ _ _).mono ?_; rintro e w' ⟨rfl, rfl⟩; rw [HP.out])
        go_ret
        exact ⟨ret_bool (by unfold leavesV; rw [all_bad HX1.out HB.out, Bool.and_false]), rfl⟩
      · have HP := Lib.hid (hpi.trans hp)
        have HB := Lib.hid hp
        clear hp hpi
        go_wp2_with (go_at_call 57; refine (l1In _ _ _ _).mono ?_; rintro e w' ⟨rfl, rfl⟩; rw [HP.out])
        go_round
        case rel => exact ⟨k + 1, by omega, by go_num, Lib.hid (by rw [take_snoc HX1.out, List.all_append, hall.out]; simp [HB.out])⟩
        case measure => simp [intOf]; omega
    · have e := hall.out
      rw [List.take_of_length_le (by rw [HX.out]; omega)] at e
      have H := Lib.hid (show leavesV xs = inB n 1 16 by unfold leavesV inB; rw [e, Bool.and_true, HX.out]; congr 1; apply propext; omega)
      clear e hall
      go_wp2_with (go_at_call 57; refine (l1In _ _ _ _).mono ?_; rintro e w' ⟨rfl, rfl⟩)
      go_ret
      exact ⟨ret_bool H.out.symm, rfl⟩
theorem up_take_two {xs : List Int} {k : Nat} {a b : Int} (ha : xs[2 * k]? = some a) (hb : xs[2 * k + 1]? = some b) : (levelUp xs).take (k + 1) = (levelUp xs).take k ++ [pairP a b] := take_snoc (levelUp_get2 xs k a b ha hb)
theorem up_take_one {xs : List Int} {k : Nat} {a : Int} (ha : xs[2 * k]? = some a) (hb : xs[2 * k + 1]? = none) : (levelUp xs).take (k + 1) = (levelUp xs).take k ++ [a] := take_snoc (levelUp_get1 xs k a ha hb)
set_option maxRecDepth 4000 in
set_option maxHeartbeats 1600000 in
theorem levelAbove (A : Option Addr) (n c : Nat) (xs : List Int) (w : World) (h : Rd w 1 A n (ints xs)) (hn : n ≤ 4194304) :
    Calls Try.prog 60 #[.slice A n c] w fun e w' => ∃ v, e = .returned v ∧ w'.ownsRow w.heap.size 3 1 v ((n + 1) / 2) (ints (levelUp xs)) ∧ Below w.heap.size w w' := by
  have HX := Lib.hid h.intLen
  go_enter Try.func60, Try.ntmps60
  go_wp2
  generalize hG : w.heap.size = G
  have HG := Lib.hid hG
  clear hG
  go_loopw [3, 4] (fun v i wr => ∃ k j : Nat, Hid (j = 2 * k) ∧ k ≤ (n + 1) / 2 ∧ i = .int .i64 (j : Int) ∧ wr.ownsRow G 3 1 v k (ints ((levelUp xs).take k)) ∧ Below G w wr) (fun _ i _ => n + 1 - (intOf i).toNat)
  case atStart => exact ⟨0, 0, Lib.hid rfl, Nat.zero_le _, rfl, World.ownsRow_nil _ _ _ _, Below.refl _ _⟩
  case round =>
    obtain ⟨k, j, HJ, hk, rfl, hown, hbel⟩ := hrel
    have hGs : G ≤ wr.heap.size := by have := hbel.size; rw [← HG.out]; exact this
    have hj := HJ.out
    by_cases hlt : j < n
    · obtain ⟨b, off, x, hA, hb, hx, hc⟩ := h.intAt hlt
      have hcx : wr.cell? ⟨b, off + j, none⟩ = some (.int .i64 x) := (hbel.cell (by rw [← HG.out]; exact hb)).trans hc
      by_cases hlt1 : j + 1 < n
      · obtain ⟨b', off', y, hA', hb', hy, hc'⟩ := h.intAt hlt1
        subst hA
        obtain ⟨rfl, rfl⟩ : b = b' ∧ off = off' := by simpa using hA'
        have hcy : wr.cell? ⟨b, off + (j + 1), none⟩ = some (.int .i64 y) := (hbel.cell (by rw [← HG.out]; exact hb)).trans hc'
        rw [hj] at hx hy
        have HS := Lib.hid (up_take_two hx hy)
        have hk' : k < 4194304 := by omega
        have hkk : k + 1 ≤ (n + 1) / 2 := by omega
        clear hx hy hc hc' hA' h hj
        have hownD : wr.drew.ownsRow G 3 1 u3 k (ints ((levelUp xs).take k)) := hown
        have hGd : G ≤ wr.drew.heap.size := hGs
        have e1 : IntKind.i64.wrap ((j : Int) + 1) = (j : Int) + 1 := IntWalk.i64_in _ (by omega)
        have e2 : (0 : Int) ≤ (j : Int) + 1 := by omega
        have e3 : ((j : Int) + 1).toNat = j + 1 := by omega
        have e4 : (j : Int) < (n : Int) := by omega
        have e5 : (j : Int) + 1 < (n : Int) := by omega
        go_wp2
        go_region_law (first | (refine step_app1 _ rfl (.tmp 16) (.tmp 27) _ rfl G 3 1 8 (.int .i64 0) Try.underlying30 int_info rfl (by omega) (by omega) u3 k _ rfl hownD _ rfl (one_int _) rfl (by omega) hGd ?_; intro v' w' hown' hg' _) | (go_simp; go_at_call 73; refine (implPrintPair _ _ _).mono ?_; rintro e w' ⟨rfl, rfl⟩))
        all_goals
          clear e1 e2 e3 e4 e5
          have hb' : Below G w w' := below_app (W := wr.drew) hbel.drew hownD hg' hGd
          rw [show ints ((levelUp xs).take k) ++ (#[Value.int .i64 (pairP x y)] : Array Value).toList = ints ((levelUp xs).take (k + 1)) from by rw [HS.out, ints_append]; rfl] at hown'
          go_wp2
          go_roundw
          case rel => exact ⟨k + 1, j + 2, Lib.hid (by rw [HJ.out]; omega), hkk, by go_num, hown', hb'⟩
          case measure => simp [intOf]; omega
      · have hn1 : n = j + 1 := by omega
        subst hA
        rw [hj] at hx
        have HS := Lib.hid (up_take_one hx (List.getElem?_eq_none (by rw [HX.out]; omega)))
        have hk' : k < 4194304 := by omega
        have hkk : k + 1 ≤ (n + 1) / 2 := by omega
        have hjn : (n : Int) ≤ (j : Int) + 1 := by omega
        clear hx hc h hj hn1
        go_wp2_with (at_builtin; refine wpList_app1 _ rfl (.tmp 29) (.tmp 34) _ rfl G 3 1 8 (.int .i64 0) Try.underlying30 int_info rfl (by omega) (by omega) u3 k _ rfl hown _ rfl (one_int _) rfl (by omega) hGs ?_; intro v' w' hown' hg' _)
        have hb' : Below G w w' := below_app hbel hown hg' hGs
        rw [show ints ((levelUp xs).take k) ++ (#[Value.int .i64 x] : Array Value).toList = ints ((levelUp xs).take (k + 1)) from by rw [HS.out, ints_append]; rfl] at hown'
        go_wp2
        go_roundw
        case rel => exact ⟨k + 1, j + 2, Lib.hid (by rw [HJ.out]; omega), hkk, by go_num, hown', hb'⟩
        case measure => simp [intOf]; omega
    · have hkn : k = (n + 1) / 2 := by omega
      rw [List.take_of_length_le (by rw [levelUp_length, HX.out]; omega)] at hown
      subst hkn
      clear hj
      go_wp2
      go_ret
      refine ⟨_, rfl, ?_, ?_⟩
      · rw [HG.out]; exact hown
      · rw [HG.out]; exact hbel
set_option maxRecDepth 4000 in
set_option maxHeartbeats 1600000 in
theorem l5Up (A : Option Addr) (n c : Nat) (xs : List Int) (w : World) (h : Rd w 1 A n (ints xs)) (hn : n ≤ 4194304) :
    Calls Try.prog 62 #[.slice A n c] w fun e w' => ∃ v, e = .returned v ∧ w'.ownsRow w.heap.size 3 1 v ((n + 1) / 2) (ints (levelUp xs)) ∧ Below w.heap.size w w' := by
  have HX := Lib.hid h.intLen
  go_enter Try.func62, Try.ntmps62
  go_wp2
  generalize hG : w.heap.size = G
  have HG := Lib.hid hG
  clear hG
  go_loopw [3, 4] (fun v i wr => ∃ k j : Nat, Hid (j = 2 * k) ∧ k ≤ (n + 1) / 2 ∧ i = .int .i64 (j : Int) ∧ wr.ownsRow G 3 1 v k (ints ((levelUp xs).take k)) ∧ Below G w wr) (fun _ i _ => n + 1 - (intOf i).toNat)
  case atStart => exact ⟨0, 0, Lib.hid rfl, Nat.zero_le _, rfl, by rw [← HG.out]; exact own_empty _ _ _, (Below.refl _ _).alloc (by rw [HG.out]; exact Nat.le_refl _) _⟩
  case round =>
    obtain ⟨k, j, HJ, hk, rfl, hown, hbel⟩ := hrel
    have hGs : G ≤ wr.heap.size := by have := hbel.size; rw [← HG.out]; exact this
    have hj := HJ.out
    by_cases hlt : j < n
    · obtain ⟨b, off, x, hA, hb, hx, hc⟩ := h.intAt hlt
      have hcx : wr.cell? ⟨b, off + j, none⟩ = some (.int .i64 x) := (hbel.cell (by rw [← HG.out]; exact hb)).trans hc
      by_cases hlt1 : j + 1 < n
      · obtain ⟨b', off', y, hA', hb', hy, hc'⟩ := h.intAt hlt1
        subst hA
        obtain ⟨rfl, rfl⟩ : b = b' ∧ off = off' := by simpa using hA'
        have hcy : wr.cell? ⟨b, off + (j + 1), none⟩ = some (.int .i64 y) := (hbel.cell (by rw [← HG.out]; exact hb)).trans hc'
        rw [hj] at hx hy
        have HS := Lib.hid (up_take_two hx hy)
        have hk' : k < 4194304 := by omega
        have hkk : k + 1 ≤ (n + 1) / 2 := by omega
        clear hx hy hc hc' hA' h hj
        have hownD : wr.drew.ownsRow G 3 1 u3 k (ints ((levelUp xs).take k)) := hown
        have hGd : G ≤ wr.drew.heap.size := hGs
        have e1 : IntKind.i64.wrap ((j : Int) + 1) = (j : Int) + 1 := IntWalk.i64_in _ (by omega)
        have e2 : (0 : Int) ≤ (j : Int) + 1 := by omega
        have e3 : ((j : Int) + 1).toNat = j + 1 := by omega
        have e4 : (j : Int) < (n : Int) := by omega
        have e5 : (j : Int) + 1 < (n : Int) := by omega
        go_wp2
        go_region_law (first | (refine step_app1 _ rfl (.tmp 17) (.tmp 28) _ rfl G 3 1 8 (.int .i64 0) Try.underlying30 int_info rfl (by omega) (by omega) u3 k _ rfl hownD _ rfl (one_int _) rfl (by omega) hGd ?_; intro v' w' hown' hg' _) | (go_simp; go_at_call 74; refine (specPrintPair _ _ _).mono ?_; rintro e w' ⟨rfl, rfl⟩))
        all_goals
          clear e1 e2 e3 e4 e5
          have hb' : Below G w w' := below_app (W := wr.drew) hbel.drew hownD hg' hGd
          rw [show ints ((levelUp xs).take k) ++ (#[Value.int .i64 (pairP x y)] : Array Value).toList = ints ((levelUp xs).take (k + 1)) from by rw [HS.out, ints_append]; rfl] at hown'
          go_wp2
          go_roundw
          case rel => exact ⟨k + 1, j + 2, Lib.hid (by rw [HJ.out]; omega), hkk, by go_num, hown', hb'⟩
          case measure => simp [intOf]; omega
      · have hn1 : n = j + 1 := by omega
        subst hA
        rw [hj] at hx
        have HS := Lib.hid (up_take_one hx (List.getElem?_eq_none (by rw [HX.out]; omega)))
        have hk' : k < 4194304 := by omega
        have hkk : k + 1 ≤ (n + 1) / 2 := by omega
        have hjn : (n : Int) ≤ (j : Int) + 1 := by omega
        clear hx hc h hj hn1
        go_wp2_with (at_builtin; refine wpList_app1 _ rfl (.tmp 30) (.tmp 35) _ rfl G 3 1 8 (.int .i64 0) Try.underlying30 int_info rfl (by omega) (by omega) u3 k _ rfl hown _ rfl (one_int _) rfl (by omega) hGs ?_; intro v' w' hown' hg' _)
        have hb' : Below G w w' := below_app hbel hown hg' hGs
        rw [show ints ((levelUp xs).take k) ++ (#[Value.int .i64 x] : Array Value).toList = ints ((levelUp xs).take (k + 1)) from by rw [HS.out, ints_append]; rfl] at hown'
        go_wp2
        go_roundw
        case rel => exact ⟨k + 1, j + 2, Lib.hid (by rw [HJ.out]; omega), hkk, by go_num, hown', hb'⟩
        case measure => simp [intOf]; omega
    · have hkn : k = (n + 1) / 2 := by omega
      rw [List.take_of_length_le (by rw [levelUp_length, HX.out]; omega)] at hown
      subst hkn
      clear hj
      go_wp2
      go_ret
      refine ⟨_, rfl, ?_, ?_⟩
      · rw [HG.out]; exact hown
      · rw [HG.out]; exact hbel
end Go.Proofs.Ytgnliaekngbmbaa
