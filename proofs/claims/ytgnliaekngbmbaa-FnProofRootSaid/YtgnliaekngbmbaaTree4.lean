/- Contracts of ProofRoot: to which print a proof leads. -/
import Derived.Test.YtgnliaekngbmbaaTree2
open Go.RowKit
namespace Go.Proofs.Ytgnliaekngbmbaa
theorem prF_end {p : Int} {m q : Nat} : prF p m q [] = if 1 < q then -1 else p := by unfold prF; rfl
theorem pair_ok {a b : Int} (ha : 0 ≤ a ∧ a ≤ 16777212) (hb : 0 ≤ b ∧ b ≤ 16777212) : 0 ≤ pairP a b ∧ pairP a b ≤ 16777212 := ⟨pairP_nonneg ha.1 ha.2 hb.1 hb.2, pairP_bd.2⟩
theorem l1_range {x : Int} (h : ¬ x = -1) : inB x (-1) 16777212 = printB x := by
  unfold inB printB
  congr 1
  apply propext
  omega
set_option maxHeartbeats 3200000 in
theorem implProofRoot (A : Option Addr) (len c : Nat) (a b d : Int) (xs : List Int) (w : World) (h : Rd w 1 A len (ints xs)) (hn : len ≤ 4194304) :
    Calls Try.prog 31 #[.int .i64 a, .int .i64 b, .int .i64 d, .slice A len c] w fun e w' => e = .returned (.int .i64 (proofR a b d xs)) ∧ w = w' := by
  have HX := Lib.hid h.intLen
  by_cases hok : (0 ≤ a ∧ a ≤ 16777212) ∧ (1 ≤ d ∧ d ≤ 16) ∧ 0 ≤ b ∧ b < d
  · obtain ⟨ha, ⟨d1, d16⟩, b0, b1⟩ := hok
    obtain ⟨mm, rfl⟩ := Int.eq_ofNat_of_zero_le b0
    obtain ⟨qq, rfl⟩ := Int.eq_ofNat_of_zero_le (show 0 ≤ d by omega)
    have HR := Lib.hid (proofR_yes (proof := xs) ha (show 1 ≤ qq by omega) (show qq ≤ 16 by omega) (show mm < qq by omega))
    have HA := Lib.hid (printB_yes ha.1 ha.2)
    have hd1 : decide ((qq : Int) < 1) = false := decide_eq_false (by omega)
    have hd2 : decide ((16 : Int) < (qq : Int)) = false := decide_eq_false (by omega)
    have hd3 : decide ((mm : Int) < 0) = false := decide_eq_false (by omega)
    have hd4 : decide (qq ≤ mm) = false := decide_eq_false (by omega)
    have ha0 := ha.1
    have ha1 := ha.2
    clear ha
    go_enter Try.func31, Try.ntmps31
    go_wp2_with (go_at_call 55; refine (printValid _ _).mono ?_; rintro e w' ⟨rfl, rfl⟩; rw [HA.out])
    go_loop [0, 1, 2, 10, 33] (fun pv nv qv _ i => ∃ (p : Int) (m q k : Nat), pv = .int .i64 p ∧ nv = .int .i64 (m : Int) ∧ qv = .int .i64 (q : Int) ∧ i = .int .i64 (k : Int) ∧ k ≤ len ∧ (0 ≤ p ∧ p ≤ 16777212) ∧ 1 ≤ q ∧ q ≤ 16 ∧ m < q ∧ Hid (prF p m q (xs.drop k) = prF a mm qq xs)) (fun _ _ _ _ i => len - (intOf i).toNat)
    case atStart => exact ⟨a, mm, qq, 0, rfl, rfl, rfl, rfl, Nat.zero_le _, ⟨ha0, ha1⟩, by omega, by omega, by omega, Lib.hid rfl⟩
    case round =>
      obtain ⟨p, m, q, k, rfl, rfl, rfl, rfl, hk, ⟨p0, p1⟩, q1, q16, hmq, hR⟩ := hrel
      by_cases hlt : k < len
      · obtain ⟨bb, off, x, rfl, _, hx, hc⟩ := h.intAt hlt
        have hR' := hR.out
        rw [drop_cons hx] at hR'
        clear hx hR
        by_cases hq1 : q = 1
        · subst hq1
          have HE := Lib.hid ((prF_one _ _ _ _).symm.trans hR')
          clear hR'
          go_wp2
          go_ret
          exact ⟨ret_int (HE.out.trans HR.out.symm), rfl⟩
        · have hxor := xor_one m (by omega)
          by_cases hal : q ≤ otherOf m
          · rw [prF_alone (by omega) hal] at hR'
            generalize otherOf m = o at *
            by_cases hx1 : x = -1
            · subst hx1
              rw [if_pos rfl] at hR'
              have HE := Lib.hid hR'
              clear hR'
              go_wp2
              go_round
              case rel => exact ⟨p, m / 2, (q + 1) / 2, k + 1, rfl, rfl, by go_num, by go_num, by omega, ⟨p0, p1⟩, by omega, by omega, by omega, HE.out⟩
              case measure => simp [intOf]; omega
            · rw [if_neg hx1] at hR'
              have HE := Lib.hid hR'
              clear hR'
              go_wp2
              go_ret
              exact ⟨ret_int (HE.out.trans HR.out.symm), rfl⟩
          · cases hp : printB x
            · rw [prF_bad (by omega) hal hp] at hR'
              have HE := Lib.hid hR'
              have HP := Lib.hid hp
              clear hR' hp
              generalize otherOf m = o at *
              go_wp2_with (go_at_call 55; refine (printValid _ _).mono ?_; rintro e w' ⟨rfl, rfl⟩; rw [HP.out])
              go_ret
              exact ⟨ret_int (HE.out.trans HR.out.symm), rfl⟩
            · have hpx := printB_of hp
              by_cases hpar : m % 2 = 0
              · rw [prF_even (by omega) hal hp hpar] at hR'
                have hpar' : ((m : Int) % 2 == 0) = true := by simp; omega
                have HE := Lib.hid hR'
                have HP := Lib.hid hp
                have HO := Lib.hid (pair_ok ⟨p0, p1⟩ hpx)
                clear hR' hp hpx hpar
                generalize otherOf m = o at *
                go_wp2_with (first | (go_at_call 55; refine (printValid _ _).mono ?_; rintro e w' ⟨rfl, rfl⟩; rw [HP.out]) | (go_at_call 73; refine (implPrintPair _ _ _).mono ?_; rintro e w' ⟨rfl, rfl⟩))
                go_round
                case rel => exact ⟨_, m / 2, (q + 1) / 2, k + 1, rfl, rfl, by go_num, by go_num, by omega, HO.out, by omega, by omega, by omega, HE.out⟩
                case measure => simp [intOf]; omega
              · rw [prF_odd (by omega) hal hp hpar] at hR'
                have hpar' : ((m : Int) % 2 == 0) = false := by simp; omega
                have HE := Lib.hid hR'
                have HP := Lib.hid hp
                have HO := Lib.hid (pair_ok hpx ⟨p0, p1⟩)
                clear hR' hp hpx hpar
                generalize otherOf m = o at *
                go_wp2_with (first | (go_at_call 55; refine (printValid _ _).mono ?_; rintro e w' ⟨rfl, rfl⟩; rw [HP.out]) | (go_at_call 73; refine (implPrintPair _ _ _).mono ?_; rintro e w' ⟨rfl, rfl⟩))
                go_round
                case rel => exact ⟨_, m / 2, (q + 1) / 2, k + 1, rfl, rfl, by go_num, by go_num, by omega, HO.out, by omega, by omega, by omega, HE.out⟩
                case measure => simp [intOf]; omega
      · have hkn : k = len := by omega
        subst hkn
        have hR' := hR.out
        rw [List.drop_of_length_le (by rw [HX.out]; exact Nat.le_refl _), prF_end] at hR'
        clear hR
        by_cases hq1 : 1 < q
        · rw [if_pos hq1] at hR'
          have HE := Lib.hid hR'
          clear hR'
          go_wp2
          go_ret
          exact ⟨ret_int (HE.out.trans HR.out.symm), rfl⟩
        · rw [if_neg hq1] at hR'
          have HE := Lib.hid hR'
          clear hR'
          go_wp2
          go_ret
          exact ⟨ret_int (HE.out.trans HR.out.symm), rfl⟩
  · have HR := Lib.hid (proofR_no (proof := xs) hok)
    clear h
    by_cases ha : 0 ≤ a ∧ a ≤ 16777212
    · have HA := Lib.hid (printB_yes ha.1 ha.2)
      rcases (by omega : d < 1 ∨ 16 < d ∨ ((1 ≤ d ∧ d ≤ 16) ∧ b < 0) ∨ ((1 ≤ d ∧ d ≤ 16) ∧ 0 ≤ b ∧ d ≤ b)) with h1 | h1 | ⟨⟨h1, h2⟩, h3⟩ | ⟨⟨h1, h2⟩, h3, h4⟩
      all_goals
        clear hok
        go_enter Try.func31, Try.ntmps31
        go_wp2_with (go_at_call 55; refine (printValid _ _).mono ?_; rintro e w' ⟨rfl, rfl⟩; rw [HA.out])
        go_ret
        exact ⟨ret_int HR.out.symm, rfl⟩
    · have HA := Lib.hid (printB_no ha)
      clear hok
      go_enter Try.func31, Try.ntmps31
      go_wp2_with (go_at_call 55; refine (printValid _ _).mono ?_; rintro e w' ⟨rfl, rfl⟩; rw [HA.out])
      go_ret
      exact ⟨ret_int HR.out.symm, rfl⟩
set_option maxHeartbeats 3200000 in
theorem specProofRoot (A : Option Addr) (len c : Nat) (a b d : Int) (xs : List Int) (w : World) (h : Rd w 1 A len (ints xs)) (hn : len ≤ 4194304) :
    Calls Try.prog 32 #[.int .i64 a, .int .i64 b, .int .i64 d, .slice A len c] w fun e w' => e = .returned (.int .i64 (proofR a b d xs)) ∧ w = w' := by
  have HX := Lib.hid h.intLen
  by_cases hok : (0 ≤ a ∧ a ≤ 16777212) ∧ (1 ≤ d ∧ d ≤ 16) ∧ 0 ≤ b ∧ b < d
  · obtain ⟨ha, ⟨d1, d16⟩, b0, b1⟩ := hok
    obtain ⟨mm, rfl⟩ := Int.eq_ofNat_of_zero_le b0
    obtain ⟨qq, rfl⟩ := Int.eq_ofNat_of_zero_le (show 0 ≤ d by omega)
    have HR := Lib.hid (proofR_yes (proof := xs) ha (show 1 ≤ qq by omega) (show qq ≤ 16 by omega) (show mm < qq by omega))
    have HA := Lib.hid (inB_yes (n := a) (lo := 0) (hi := 16777212) ha.1 ha.2)
    have HB := Lib.hid (inB_yes (n := (qq : Int)) (lo := 1) (hi := 16) (by omega) (by omega))
    have HC := Lib.hid (inB_yes (n := (mm : Int)) (lo := 0) (hi := (qq : Int) - 1) (by omega) (by omega))
    have ha0 := ha.1
    have ha1 := ha.2
    clear ha
    go_enter Try.func32, Try.ntmps32
    go_wp2_with (first | (go_at_call 57; refine (l1In _ _ _ _).mono ?_; rintro e w' ⟨rfl, rfl⟩; first | rw [HA.out] | rw [HB.out] | rw [HC.out]))
    go_loop [0, 1, 2, 9, 10, 66, 68] (fun pv nv qv i _ _ _ => ∃ (p : Int) (m q k : Nat), pv = .int .i64 p ∧ nv = .int .i64 (m : Int) ∧ qv = .int .i64 (q : Int) ∧ i = .int .i64 (k : Int) ∧ k ≤ len ∧ (0 ≤ p ∧ p ≤ 16777212) ∧ 1 ≤ q ∧ q ≤ 16 ∧ m < q ∧ Hid (prF p m q (xs.drop k) = prF a mm qq xs)) (fun _ _ _ i _ _ _ => len - (intOf i).toNat)
    case atStart => exact ⟨a, mm, qq, 0, rfl, rfl, rfl, rfl, Nat.zero_le _, ⟨ha0, ha1⟩, by omega, by omega, by omega, Lib.hid rfl⟩
    case round =>
      obtain ⟨p, m, q, k, rfl, rfl, rfl, rfl, hk, ⟨p0, p1⟩, q1, q16, hmq, hR⟩ := hrel
      by_cases hlt : k < len
      · obtain ⟨bb, off, x, rfl, _, hx, hc⟩ := h.intAt hlt
        have hR' := hR.out
        rw [drop_cons hx] at hR'
        clear hx hR
        have hoth : otherOf m = if m % 2 = 0 then m + 1 else m - 1 := rfl
        by_cases hq1 : q = 1
        · subst hq1
          have HE := Lib.hid ((prF_one _ _ _ _).symm.trans hR')
          have hm0 : m = 0 := by omega
          subst hm0
          clear hR' hoth
          go_wp2
          go_ret
          exact ⟨ret_int (HE.out.trans HR.out.symm), rfl⟩
        · have hpb : ((q : Int) == 1) = false := by simpa using (by omega : ¬ (q : Int) = 1)
          by_cases hal : q ≤ otherOf m
          · have hev : m % 2 = 0 ∧ m + 1 = q := by rw [hoth] at hal; split at hal <;> omega
            have hpar : ((m : Int) % 2 == 0) = true := by have := hev.1; simp; omega
            have hal2 : ((m : Int) + 1 == (q : Int)) = true := by have := hev.2; simp; omega
            rw [prF_alone (by omega) hal] at hR'
            by_cases hx1 : x = -1
            · subst hx1
              rw [if_pos rfl] at hR'
              have HE := Lib.hid hR'
              clear hR' hoth hal hev
              go_wp2_with (go_at_call 57; refine (l1In _ _ _ _).mono ?_; rintro e w' ⟨rfl, rfl⟩; rw [inB_yes (by omega) (by omega)])
              go_round
              case rel => exact ⟨p, m / 2, (q + 1) / 2, k + 1, rfl, rfl, by go_num, by go_num, by omega, ⟨p0, p1⟩, by omega, by omega, by omega, HE.out⟩
              case measure => simp [intOf]; omega
            · rw [if_neg hx1] at hR'
              have hxb : (x == -1) = false := by simpa using hx1
              have HE := Lib.hid hR'
              clear hR' hoth hal hev
              cases hin : inB x (-1) 16777212
              all_goals
                have HI := Lib.hid hin
                clear hin
                go_wp2_with (go_at_call 57; refine (l1In _ _ _ _).mono ?_; rintro e w' ⟨rfl, rfl⟩; rw [HI.out])
                go_ret
                exact ⟨ret_int (HE.out.trans HR.out.symm), rfl⟩
          · by_cases hx1 : x = -1
            · have hp : printB x = false := by rw [hx1]; rfl
              rw [prF_bad (by omega) hal hp] at hR'
              have HE := Lib.hid hR'
              subst hx1
              rcases Nat.mod_two_eq_zero_or_one m with hpm | hpm
              · have hpar : ((m : Int) % 2 == 0) = true := by simp; omega
                have hal2 : ((m : Int) + 1 == (q : Int)) = false := by rw [hoth, if_pos hpm] at hal; simp; omega
                clear hR' hoth hal hp hpm
                go_wp2_with (go_at_call 57; refine (l1In _ _ _ _).mono ?_; rintro e w' ⟨rfl, rfl⟩; rw [inB_yes (by omega) (by omega)])
                go_ret
                exact ⟨ret_int (HE.out.trans HR.out.symm), rfl⟩
              · have hpar : ((m : Int) % 2 == 0) = false := by simp; omega
                clear hR' hoth hal hp hpm
                go_wp2_with (go_at_call 57; refine (l1In _ _ _ _).mono ?_; rintro e w' ⟨rfl, rfl⟩; rw [inB_yes (by omega) (by omega)])
                go_ret
                exact ⟨ret_int (HE.out.trans HR.out.symm), rfl⟩
            · have hxb : (x == -1) = false := by simpa using hx1
              have hpi := l1_range hx1
              cases hp : printB x
              · rw [prF_bad (by omega) hal hp] at hR'
                have HE := Lib.hid hR'
                have HI := Lib.hid (hpi.trans hp)
                clear hR' hp hpi hoth hal
                go_wp2_with (go_at_call 57; refine (l1In _ _ _ _).mono ?_; rintro e w' ⟨rfl, rfl⟩; rw [HI.out])
                all_goals
                  go_ret
                  exact ⟨ret_int (HE.out.trans HR.out.symm), rfl⟩
              · have hpx := printB_of hp
                have HI := Lib.hid (hpi.trans hp)
                rcases Nat.mod_two_eq_zero_or_one m with hpm | hpm
                · have hpar : ((m : Int) % 2 == 0) = true := by simp; omega
                  have hal2 : ((m : Int) + 1 == (q : Int)) = false := by rw [hoth, if_pos hpm] at hal; simp; omega
                  rw [prF_even (by omega) hal hp hpm] at hR'
                  have HE := Lib.hid hR'
                  have HO := Lib.hid (pair_ok ⟨p0, p1⟩ hpx)
                  clear hR' hp hpx hpi hoth hal hpm
                  go_wp2_with (first | (go_at_call 57; refine (l1In _ _ _ _).mono ?_; rintro e w' ⟨rfl, rfl⟩; rw [HI.out]) | (go_at_call 74; refine (specPrintPair _ _ _).mono ?_; rintro e w' ⟨rfl, rfl⟩))
                  go_round
                  case rel => exact ⟨_, m / 2, (q + 1) / 2, k + 1, rfl, rfl, by go_num, by go_num, by omega, HO.out, by omega, by omega, by omega, HE.out⟩
                  case measure => simp [intOf]; omega
                · have hpar : ((m : Int) % 2 == 0) = false := by simp; omega
                  rw [prF_odd (by omega) hal hp (by omega)] at hR'
                  have HE := Lib.hid hR'
                  have HO := Lib.hid (pair_ok hpx ⟨p0, p1⟩)
                  clear hR' hp hpx hpi hoth hal hpm
                  go_wp2_with (first | (go_at_call 57; refine (l1In _ _ _ _).mono ?_; rintro e w' ⟨rfl, rfl⟩; rw [HI.out]) | (go_at_call 74; refine (specPrintPair _ _ _).mono ?_; rintro e w' ⟨rfl, rfl⟩))
                  go_round
                  case rel => exact ⟨_, m / 2, (q + 1) / 2, k + 1, rfl, rfl, by go_num, by go_num, by omega, HO.out, by omega, by omega, by omega, HE.out⟩
                  case measure => simp [intOf]; omega
      · have hkn : k = len := by omega
        subst hkn
        have hR' := hR.out
        rw [List.drop_of_length_le (by rw [HX.out]; exact Nat.le_refl _), prF_end] at hR'
        clear hR
        by_cases hq1 : 1 < q
        · rw [if_pos hq1] at hR'
          have HE := Lib.hid hR'
          clear hR'
          go_wp2
          go_ret
          exact ⟨ret_int (HE.out.trans HR.out.symm), rfl⟩
        · rw [if_neg hq1] at hR'
          have HE := Lib.hid hR'
          clear hR'
          go_wp2
          go_ret
          exact ⟨ret_int (HE.out.trans HR.out.symm), rfl⟩
  · have HR := Lib.hid (proofR_no (proof := xs) hok)
    clear h
    by_cases ha : 0 ≤ a ∧ a ≤ 16777212
    · have HA := Lib.hid (inB_yes (n := a) (lo := 0) (hi := 16777212) ha.1 ha.2)
      by_cases h1 : 1 ≤ d ∧ d ≤ 16
      · have HB := Lib.hid (inB_yes (n := d) (lo := 1) (hi := 16) h1.1 h1.2)
        have HC := Lib.hid (inB_no (n := b) (lo := 0) (hi := d - 1) (fun h' => hok ⟨ha, h1, h'.1, by omega⟩))
        clear hok
        go_enter Try.func32, Try.ntmps32
        go_wp2_with (first | (go_at_call 57; refine (l1In _ _ _ _).mono ?_; rintro e w' ⟨rfl, rfl⟩; first | rw [HA.out] | rw [HB.out] | rw [HC.out]))
        go_ret
        exact ⟨ret_int HR.out.symm, rfl⟩
      · have HB := Lib.hid (inB_no (n := d) (lo := 1) (hi := 16) h1)
        clear hok
        go_enter Try.func32, Try.ntmps32
        go_wp2_with (first | (go_at_call 57; refine (l1In _ _ _ _).mono ?_; rintro e w' ⟨rfl, rfl⟩; first | rw [HA.out] | rw [HB.out]))
        go_ret
        exact ⟨ret_int HR.out.symm, rfl⟩
    · have HA := Lib.hid (inB_no (n := a) (lo := 0) (hi := 16777212) ha)
      clear hok
      go_enter Try.func32, Try.ntmps32
      go_wp2_with (first | (go_at_call 57; refine (l1In _ _ _ _).mono ?_; rintro e w' ⟨rfl, rfl⟩; rw [HA.out]))
      go_ret
      exact ⟨ret_int HR.out.symm, rfl⟩
end Go.Proofs.Ytgnliaekngbmbaa
