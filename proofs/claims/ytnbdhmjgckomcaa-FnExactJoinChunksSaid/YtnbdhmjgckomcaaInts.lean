/- Contracts of the functions on lists of numbers. -/
import Derived.Test.YtnbdhmjgckomcaaWords
import Derived.Test.YtnbdhmjgckomcaaPlain
import Derived.Deep.RegionWith
open Go.RowKit
namespace Go.Proofs.Ytnbdhmjgckomcaa

theorem int_info : (Try.prog.info? 3).map (fun i => (i.zero, i.size, i.bytes)) = some (some (.int .i64 0), 1, 8) := by kernel_rfl

set_option maxHeartbeats 400000 in
theorem toIntS (A : Option Addr) (n c : Nat) (xs : List Int) (w : World) (h : Rd w 1 A n (ints xs)) (hn : n ≤ 4194304) :
    Calls Try.prog 31 #[.slice A n c] w fun e w' => ∃ v, e = .returned v ∧ w'.ownsRow w.heap.size 3 1 v n (ints xs) ∧ Below w.heap.size w w' := by
  obtain ⟨i0, hi0, hz0, hz1, hz2⟩ := info_parts int_info
  have hxl := Lib.hid h.intLen
  go_enter Try.func31, Try.ntmps31
  go_wp2_with (at_make; refine wpList_make_full _ rfl _ _ 29 rfl w.heap.size 3 i0 (.int .i64 0) 1 Try.underlying29 hi0 hz0 hz1 .i64 .i64 _ _ n rfl rfl rfl rfl (by rw [hz2]; omega) (by unfold maxLen; omega) (Nat.le_refl _) ?_; intro w1 hown1 hg1)
  have hb1 : Below w.heap.size w w1 := (Below.refl _ _).grown hg1 (Nat.le_refl _) (by simp)
  clear hg1
  generalize (madeCells (Value.int .i64 0).cells (n * 1)).toList = zs at hown1
  have hzl : Hid (zs.length = n) := by have := hown1.1; exact Lib.hid (by omega)
  generalize hG : w.heap.size = G at hown1 hb1 ⊢
  have HG := Lib.hid hG
  clear hG
  go_loopw [4] (fun i wr => ∃ k : Nat, k ≤ n ∧ i = .int .i64 k ∧ wr.ownsRow G 3 1 (.slice (some ⟨G, 0, none⟩) n n) n (mix (ints xs) zs k) ∧ Below G w wr) (fun i _ => n - (intOf i).toNat)
  case atStart => exact ⟨0, Nat.zero_le _, rfl, by rw [mix_zero]; exact hown1, hb1⟩
  case round =>
    obtain ⟨k, hk, rfl, hown, hbel⟩ := hrel
    by_cases hlt : k < n
    · obtain ⟨b, off, x, rfl, hb, hx, hc⟩ := h.intAt hlt
      have hc' : wr.cell? ⟨b, off + k, none⟩ = some (.int .i64 x) := (hbel.cell (by rw [← HG.out]; exact hb)).trans hc
      have hl : (ints xs).length = zs.length := by rw [ints_length, hxl.out, hzl.out]
      obtain ⟨v, hv⟩ : ∃ v, wr.cell? ⟨G, k, none⟩ = some v := by
        rw [hown.cellAt k (by omega), mix_get hl (by rw [hzl.out]; exact hlt)]
        exact ⟨_, List.getElem?_eq_getElem (by rw [hzl.out]; exact hlt)⟩
      have hfz := hown.frozenAt k
      have hst := (hown.stored k (.int .i64 x)).1
      rw [mix_set (show (ints xs)[k]? = some (.int .i64 x) by simp [ints, hx]) hl] at hst
      have HST := Lib.hid hst
      have HB := Lib.hid (hbel.setCell (p := ⟨G, k, none⟩) (Nat.le_refl _) (.int .i64 x))
      clear hst hl hx hc h hown hbel
      go_wp2
      go_roundw
      case rel => exact ⟨k + 1, by omega, by go_num, HST.out, HB.out⟩
      case measure => simp [intOf]; omega
    · have hkn : k = n := by omega
      subst hkn
      have e : mix (ints xs) zs k = ints xs := by have e0 := mix_all (ints xs) zs (by rw [ints_length, hxl.out, hzl.out]); rwa [ints_length, hxl.out] at e0
      rw [e] at hown
      go_wp2
      go_ret
      refine ⟨_, rfl, ?_, ?_⟩
      · rw [HG.out]; exact hown
      · rw [HG.out]; exact hbel

set_option maxHeartbeats 800000 in
theorem eqIntS (A B : Option Addr) (n m c d : Nat) (xs ys : List Int) (w : World) (ha : Rd w 1 A n (ints xs)) (hb : Rd w 1 B m (ints ys)) (hn : n ≤ 4194304) :
    Calls Try.prog 22 #[.slice A n c, .slice B m d] w fun e w' => e = .returned (.bool (decide (xs = ys))) ∧ ∃ k, w' = w.drewN k := by
  have hxl := ha.intLen
  have hyl := hb.intLen
  by_cases hnm : n = m
  · subst hnm
    have HX := Lib.hid hxl
    have HY := Lib.hid hyl
    clear hxl hyl
    go_enter Try.func22, Try.ntmps22
    go_wp2
    go_loopw [5] (fun i wr => ∃ k : Nat, k ≤ n ∧ i = .int .i64 k ∧ Hid (xs.take k = ys.take k) ∧ ∃ j, wr = w.drewN j) (fun i _ => n - (intOf i).toNat)
    case atStart => exact ⟨0, Nat.zero_le _, rfl, Lib.hid rfl, 0, rfl⟩
    case round =>
      obtain ⟨k, hk, rfl, heq, j, rfl⟩ := hrel
      by_cases hlt : k < n
      · obtain ⟨b, off, x, rfl, _, hx, hc⟩ := ha.intAt hlt
        obtain ⟨b', off', y, rfl, _, hy, hc'⟩ := hb.intAt hlt
        have HX1 := Lib.hid hx
        have HY1 := Lib.hid hy
        clear hx hy
        have hlt' : (k : Int) < (n : Int) := by omega
        by_cases hxy : x = y
        · subst hxy
          go_wp2
          go_quiet (fail)
          go_wp2
          go_roundw
          case rel => exact ⟨k + 1, by omega, by go_num, Lib.hid (by rw [take_snoc HX1.out, take_snoc HY1.out, heq.out]), _, by first | exact rfl | exact World.drewN_drewN _ _ _⟩
          case measure => simp [intOf]; omega
        · go_wp2
          go_quiet (fail)
          go_wp2
          go_ret
          refine ⟨ret_bool (decide_eq_false ?_).symm, _, by first | exact rfl | exact World.drewN_drewN _ _ _⟩
          rintro rfl
          have := HX1.out.symm.trans HY1.out
          exact hxy (by injection this)
      · have hkn : k = n := by omega
        subst hkn
        go_wp2
        go_ret
        refine ⟨ret_bool (decide_eq_true ?_).symm, _, rfl⟩
        have h1 := heq.out
        rwa [List.take_of_length_le (by rw [HX.out]; exact Nat.le_refl _), List.take_of_length_le (by rw [HY.out]; exact Nat.le_refl _)] at h1
  · have hne : ¬ xs = ys := by rintro rfl; omega
    have HN := Lib.hid hne
    clear hne hxl hyl
    go_enter Try.func22, Try.ntmps22
    go_wp2
    go_ret
    exact ⟨ret_bool (decide_eq_false HN.out).symm, 0, rfl⟩

set_option maxHeartbeats 400000 in
theorem printsValid (A : Option Addr) (n c : Nat) (xs : List Int) (w : World) (h : Rd w 1 A n (ints xs)) (hn : n ≤ 4194304) :
    Calls Try.prog 73 #[.slice A n c] w fun e w' => e = .returned (.bool (xs.all printB)) ∧ w = w' := by
  have HX := Lib.hid h.intLen
  go_enter Try.func73, Try.ntmps73
  go_wp2
  go_loop [4, 7] (fun _ i => ∃ k : Nat, k ≤ n ∧ i = .int .i64 k ∧ Hid ((xs.take k).all printB = true)) (fun _ i => n - (intOf i).toNat)
  case atStart => exact ⟨0, Nat.zero_le _, rfl, Lib.hid rfl⟩
  case round =>
    obtain ⟨k, hk, rfl, hall⟩ := hrel
    by_cases hlt : k < n
    · obtain ⟨b, off, x, rfl, _, hx, hc⟩ := h.intAt hlt
      have HX1 := Lib.hid hx
      clear hx
      cases hp : printB x
      · have HP := Lib.hid hp
        clear hp
        go_wp2_with (go_at_call 63; refine (printValid _ _).mono ?_; rintro e w' ⟨rfl, rfl⟩; rw [HP.out])
        go_ret
        exact ⟨ret_bool (all_bad HX1.out HP.out).symm, rfl⟩
      · have HP := Lib.hid hp
        clear hp
        go_wp2_with (go_at_call 63; refine (printValid _ _).mono ?_; rintro e w' ⟨rfl, rfl⟩; rw [HP.out])
        go_round
        case rel => exact ⟨k + 1, by omega, by go_num, Lib.hid (by rw [take_snoc HX1.out, List.all_append, hall.out]; simp [HP.out])⟩
        case measure => simp [intOf]; omega
    · have e := hall.out
      rw [List.take_of_length_le (by rw [HX.out]; omega)] at e
      have HE := Lib.hid e
      clear e hall
      go_wp2
      go_ret
      exact ⟨ret_bool HE.out.symm, rfl⟩
set_option maxHeartbeats 400000 in
theorem implPrintList (A : Option Addr) (n c : Nat) (xs : List Int) (w : World) (h : Rd w 1 A n (ints xs)) (hn : n ≤ 4194304) :
    Calls Try.prog 49 #[.slice A n c] w fun e w' => e = .returned (.int .i64 (listP xs)) ∧ w = w' := by
  have HX := Lib.hid h.intLen
  by_cases h20 : 20 < n
  · have hf := Lib.hid (listP_big (xs := xs) (by rw [HX.out]; exact h20))
    go_enter Try.func49, Try.ntmps49
    go_wp2
    go_ret
    exact ⟨ret_int hf.out.symm, rfl⟩
  · have hf := Lib.hid (listP_small (xs := xs) (by rw [HX.out]; exact h20))
    cases ha : xs.all printB
    · have HA := Lib.hid ha
      clear ha
      go_enter Try.func49, Try.ntmps49
      go_wp2_with (go_at_call 73; refine (printsValid _ _ _ xs _ h hn).mono ?_; rintro e w' ⟨rfl, rfl⟩; rw [HA.out])
      go_ret
      exact ⟨ret_int (hf.out.trans (pairTo_bad HA.out)).symm, rfl⟩
    · have HA := Lib.hid ha
      clear ha
      go_enter Try.func49, Try.ntmps49
      go_wp2_with (go_at_call 73; refine (printsValid _ _ _ xs _ h hn).mono ?_; rintro e w' ⟨rfl, rfl⟩; rw [HA.out])
      go_loop [3, 5, 16] (fun x _ i => ∃ k : Nat, k ≤ n ∧ i = .int .i64 k ∧ x = .int .i64 (pairTo (xs.take k))) (fun _ _ i => n - (intOf i).toNat)
      case atStart => exact ⟨0, Nat.zero_le _, rfl, rfl⟩
      case round =>
        obtain ⟨k, hk, rfl, rfl⟩ := hrel
        by_cases hlt : k < n
        · obtain ⟨b, off, x, rfl, _, hx, hc⟩ := h.intAt hlt
          have HS := Lib.hid ((congrArg pairTo (take_snoc hx)).trans (pairTo_snoc _ _))
          clear hx
          generalize pairTo (xs.take k) = y at *
          go_wp2_with (go_at_call 51; refine (implPrintPair _ _ _).mono ?_; rintro e w' ⟨rfl, rfl⟩)
          go_round
          case rel => exact ⟨k + 1, by omega, by go_num, by rw [HS.out]⟩
          case measure => simp [intOf]; omega
        · have hk' : Hid (pairTo (xs.take k) = listP xs) := Lib.hid (by rw [hf.out, List.take_of_length_le (by rw [HX.out]; omega)])
          generalize pairTo (xs.take k) = y at *
          go_wp2
          go_ret
          exact ⟨ret_int hk'.out, rfl⟩
set_option maxHeartbeats 400000 in
theorem specPrintList (A : Option Addr) (n c : Nat) (xs : List Int) (w : World) (h : Rd w 1 A n (ints xs)) (hn : n ≤ 4194304) :
    Calls Try.prog 50 #[.slice A n c] w fun e w' => e = .returned (.int .i64 (listP xs)) ∧ w = w' := by
  have HX := Lib.hid h.intLen
  go_enter Try.func50, Try.ntmps50
  go_wp2
  go_loop [3, 4] (fun x i => ∃ k : Nat, k ≤ n ∧ i = .int .i64 k ∧ x = .int .i64 (pairTo (xs.take k)) ∧ (0 < k → ¬ 20 < n)) (fun _ i => n - (intOf i).toNat)
  case atStart => exact ⟨0, Nat.zero_le _, rfl, rfl, fun h => absurd h (by omega)⟩
  case round =>
    obtain ⟨k, hk, rfl, rfl, h20⟩ := hrel
    by_cases hlt : k < n
    · obtain ⟨b, off, x, rfl, _, hx, hc⟩ := h.intAt hlt
      have hsn := (congrArg pairTo (take_snoc hx)).trans (pairTo_snoc _ _)
      have HS := Lib.hid hsn
      clear hx h20
      generalize pairTo (xs.take k) = y at *
      by_cases hneg : pairP y x < 0
      · have hm := Lib.hid (pairTo_stays (hsn.trans (by rw [← hsn] at hneg ⊢; exact pairTo_neg hneg)))
        clear hsn
        go_wp2_with (go_at_call 62; refine (specPrintPair _ _ _).mono ?_; rintro e w' ⟨rfl, rfl⟩)
        go_ret
        refine ⟨ret_int ?_, rfl⟩
        unfold listP
        split
        · rfl
        · exact hm.out.symm
      · clear hsn
        by_cases hbig : 20 < n
        · have hf := Lib.hid (listP_big (xs := xs) (by rw [HX.out]; exact hbig))
          go_wp2_with (go_at_call 62; refine (specPrintPair _ _ _).mono ?_; rintro e w' ⟨rfl, rfl⟩)
          go_ret
          exact ⟨ret_int hf.out.symm, rfl⟩
        · go_wp2_with (go_at_call 62; refine (specPrintPair _ _ _).mono ?_; rintro e w' ⟨rfl, rfl⟩)
          go_round
          case rel => exact ⟨k + 1, by omega, by go_num, by rw [HS.out], fun _ => hbig⟩
          case measure => simp [intOf]; omega
    · have hk' : Hid (pairTo (xs.take k) = listP xs) := Lib.hid (by
        rw [List.take_of_length_le (by rw [HX.out]; omega), listP_small (by rw [HX.out]; intro hb; exact h20 (by omega) hb)])
      clear h20
      generalize pairTo (xs.take k) = y at *
      go_wp2
      go_ret
      exact ⟨ret_int hk'.out, rfl⟩
end Go.Proofs.Ytnbdhmjgckomcaa
