/- Contracts of what says whether entries are valid. -/
import Derived.Test.YtjombaiplnebmaaGreatDoorWords
import Derived.Test.YtjombaiplnebmaaGreatDoorMpl
import Derived.Test.YtjombaiplnebmaaGreatDoorStrs
import Derived.BigQuiet
import Derived.Deep.QuietTactic
open Go.RowKit
namespace Go.Proofs.YtjombaiplnebmaaGreatDoor
theorem Calls.flipEntry {P : Program} {f : FuncId} {args : Array Value} {W : World} {v v' : Value} (h : Calls P f args W fun e w' => e = .returned v ∧ W = w') (hv : v = v') : Calls P f args W fun e w' => e = .returned v' ∧ w' = W :=
  h.mono fun _ _ ⟨he, hw⟩ => ⟨by rw [he, hv], hw.symm⟩
theorem Rd.enFrom {w : World} {n k b off : Nat} {xs : List (ByteArray × Int)} (h : Rd w 2 (some ⟨b, off, none⟩) n (ens xs)) (hk : k < n) : ∃ s p, xs[k]? = some (s, p) ∧ w.cell? ⟨b, off + k * 2, none⟩ = some (.string s) ∧ w.cell? ⟨b, off + k * 2 + 1, none⟩ = some (.int .i64 p) := by
  obtain ⟨b', off', s, p, e, _, h1, h2, h3⟩ := h.enAt hk
  injection e with e
  injection e with e1 e2
  subst e1 e2
  exact ⟨s, p, h1, h2, h3⟩
set_option maxRecDepth 4000 in
set_option maxHeartbeats 3200000 in
theorem specEntriesValid (A : Option Addr) (n c : Nat) (xs : List (ByteArray × Int)) (w : World) (h : Rd w 2 A n (ens xs)) (hx : ∀ x ∈ xs, x.1.size ≤ maxLen) (hn : n ≤ 4194304) :
    Calls Tryz.prog 52 #[.slice A n c] w fun e w' => e = .returned (.bool (entriesV xs)) ∧ ∃ k, w' = w.drewN k := by
  have HL := Lib.hid h.enLen
  have HX := Lib.hid hx
  clear hx
  go_enter Tryz.func52, Tryz.ntmps52
  go_wp2
  go_loopw [3] (fun i wr => ∃ k : Nat, k ≤ n ∧ i = .int .i64 k ∧ Hid (∀ i, i < k → goodAt entryOk entryLt xs i = true) ∧ ∃ j, wr = w.drewN j) (fun i _ => n - (intOf i).toNat)
  case atStart => exact ⟨0, Nat.zero_le _, rfl, Lib.hid (fun i hi => absurd hi (Nat.not_lt_zero _)), 0, rfl⟩
  case round =>
    obtain ⟨k, hk, rfl, HG, j, hwr⟩ := hrel
    have hr : Rd wr 2 A n (ens xs) := by rw [hwr]; exact h.drewN j
    have HW := Lib.hid hwr
    clear hwr
    by_cases hlt : k < n
    · obtain ⟨b, off, s, p, rfl, _, hxk, hc0, hc1⟩ := hr.enAt hlt
      have hsm := HX.out _ (List.mem_of_getElem? hxk)
      dsimp only at hsm
      have hlt' : (k : Int) < (n : Int) := by omega
      cases hv : wordV (bts s)
      · have H1 := Lib.hid (fun W => Calls.flipEntry (specWordValid s W hsm) (v' := .bool false) (by rw [hv]))
        have H2 := H1
        have HB : Hid (entriesV xs = false) := Lib.hid (goodAll_bad (by rw [HL.out]; exact hlt) (goodAt_bad hxk (by unfold entryOk; dsimp only; rw [hv, Bool.false_and])))
        clear hxk hv
        go_wp2
        go_quiet (first | (go_at_call 56; exact Calls.quiet_of_same (H1.out _)) | (go_at_call 67; exact Calls.quiet_of_same (H2.out _)))
        go_wp2
        go_ret
        exact ⟨ret_bool HB.out.symm, _, by first | exact HW.out | rw [HW.out, World.drewN_drewN]⟩
      · have H1 := Lib.hid (fun W => Calls.flipEntry (specWordValid s W hsm) (v' := .bool true) (by rw [hv]))
        cases hp : printB p
        · have H2 := Lib.hid (fun W => Calls.flipEntry (l1In p 0 16777212 W) (v' := .bool false) (by rw [← hp]; rfl))
          have HB : Hid (entriesV xs = false) := Lib.hid (goodAll_bad (by rw [HL.out]; exact hlt) (goodAt_bad hxk (by unfold entryOk; dsimp only; rw [hp, Bool.and_false])))
          clear hxk hv hp
          go_wp2
          go_quiet (first | (go_at_call 56; exact Calls.quiet_of_same (H1.out _)) | (go_at_call 67; exact Calls.quiet_of_same (H2.out _)))
          go_wp2
          go_ret
          exact ⟨ret_bool HB.out.symm, _, by first | exact HW.out | rw [HW.out, World.drewN_drewN]⟩
        · have H2 := Lib.hid (fun W => Calls.flipEntry (l1In p 0 16777212 W) (v' := .bool true) (by rw [← hp]; rfl))
          have HO : Hid (entryOk (s, p) = true) := Lib.hid (by unfold entryOk; dsimp only; rw [hv, hp]; rfl)
          clear hv hp
          rcases Nat.eq_zero_or_pos k with hk0 | hk0
          · have HK : Hid (goodAt entryOk entryLt xs k = true) := Lib.hid (by subst hk0; exact goodAt_zero hxk HO.out)
            have hk0' : decide (0 < (k : Int)) = false := decide_eq_false (by omega)
            have hk0n : decide (0 < k) = false := decide_eq_false (by omega)
            clear hxk hk0
            go_wp2
            go_quiet (first | (go_at_call 56; exact Calls.quiet_of_same (H1.out _)) | (go_at_call 67; exact Calls.quiet_of_same (H2.out _)))
            go_wp2
            go_roundw
            case rel => exact ⟨k + 1, by omega, by go_num, Lib.hid (fun i hi => by rcases Nat.lt_succ_iff_lt_or_eq.1 hi with hi | rfl; exact HG.out i hi; exact HK.out), _, by first | exact HW.out | rw [HW.out, World.drewN_drewN]⟩
            case measure => simp [intOf]; omega
          · obtain ⟨k', hkk⟩ : ∃ k', k = k' + 1 := ⟨k - 1, by omega⟩
            obtain ⟨t, q, hyk, hd0, hd1⟩ := hr.enFrom (show k' < n by omega)
            have hk0' : decide (0 < (k : Int)) = true := decide_eq_true (by omega)
            have hw : IntKind.i64.wrap ((k : Int) - 1) = (k' : Int) := by
              rw [show ((k : Int) - 1) = (k' : Int) from by omega]
              exact IntWalk.i64_in _ (by omega)
            have HKK := Lib.hid hkk
            have hk'n : (k' : Int) < (n : Int) := by omega
            have hk'0 : (0 : Int) ≤ (k' : Int) := Int.natCast_nonneg _
            have HS : Hid (goodAt entryOk entryLt xs k = entryLt (t, q) (s, p)) := Lib.hid (by subst hkk; exact goodAt_succ hxk hyk HO.out)
            clear hkk hxk hyk
            cases hl : Go.Op.bytesLess t.toList s.toList
            · have hl2 : (Go.Op.bytesLess s.toList t.toList || s.toList == t.toList) = true := by rw [bytesLess_total, hl]; rfl
              have HB : Hid (entriesV xs = false) := Lib.hid (goodAll_bad (by rw [HL.out]; exact hlt) (HS.out.trans hl))
              go_wp2
              go_quiet (first | (go_at_call 56; exact Calls.quiet_of_same (H1.out _)) | (go_at_call 67; exact Calls.quiet_of_same (H2.out _)))
              go_wp2
              go_ret
              exact ⟨ret_bool HB.out.symm, _, by first | exact HW.out | rw [HW.out, World.drewN_drewN]⟩
            · have hl2 : (Go.Op.bytesLess s.toList t.toList || s.toList == t.toList) = false := by rw [bytesLess_total, hl]; rfl
              have HK : Hid (goodAt entryOk entryLt xs k = true) := Lib.hid (HS.out.trans hl)
              go_wp2
              go_quiet (first | (go_at_call 56; exact Calls.quiet_of_same (H1.out _)) | (go_at_call 67; exact Calls.quiet_of_same (H2.out _)))
              go_wp2
              go_roundw
              case rel => exact ⟨k + 1, by omega, by go_num, Lib.hid (fun i hi => by rcases Nat.lt_succ_iff_lt_or_eq.1 hi with hi | rfl; exact HG.out i hi; exact HK.out), _, by first | exact HW.out | rw [HW.out, World.drewN_drewN]⟩
              case measure => simp [intOf]; omega
    · have hkn : k = n := by omega
      subst hkn
      have HE : Hid (entriesV xs = decide (k ≤ 3)) := Lib.hid (by unfold entriesV; rw [goodAll_ok (fun i hi => HG.out i (by rw [HL.out] at hi; exact hi)), HL.out])
      by_cases hm : k ≤ 3
      · have HF := Lib.hid (HE.out.trans (decide_eq_true hm))
        have hm' : decide ((k : Int) ≤ 3) = true := decide_eq_true (by omega)
        go_wp2
        go_ret
        exact ⟨ret_bool HF.out.symm, _, HW.out⟩
      · have HF := Lib.hid (HE.out.trans (decide_eq_false hm))
        have hm' : decide ((k : Int) ≤ 3) = false := decide_eq_false (by omega)
        go_wp2
        go_ret
        exact ⟨ret_bool HF.out.symm, _, HW.out⟩
set_option maxRecDepth 4000 in
set_option maxHeartbeats 3200000 in
theorem implEntriesValid (A : Option Addr) (n c : Nat) (xs : List (ByteArray × Int)) (w : World) (h : Rd w 2 A n (ens xs)) (hx : ∀ x ∈ xs, x.1.size ≤ maxLen) :
    Calls Tryz.prog 71 #[.slice A n c] w fun e w' => e = .returned (.bool (entriesV xs)) ∧ Below w.heap.size w w' := by
  have HL := Lib.hid h.enLen
  have HX := Lib.hid hx
  clear hx
  by_cases hM : n ≤ 3
  · have hM' : decide (3 < (n : Int)) = false := decide_eq_false (by omega)
    go_enter Tryz.func71, Tryz.ntmps71
    go_wp2
    go_loopw [3, 4, 10] (fun _ _ i wr => ∃ k : Nat, k ≤ n ∧ i = .int .i64 k ∧ Hid (∀ i, i < k → goodAt entryOk entryLt xs i = true) ∧ Below w.heap.size w wr) (fun _ _ i _ => n - (intOf i).toNat)
    case atStart => exact ⟨0, Nat.zero_le _, rfl, Lib.hid (fun i hi => absurd hi (Nat.not_lt_zero _)), Below.refl _ _⟩
    case round =>
      obtain ⟨k, hk, rfl, HG, hB⟩ := hrel
      have hr : Rd wr 2 A n (ens xs) := h.below hB
      by_cases hlt : k < n
      · obtain ⟨b, off, s, p, rfl, hbb, hxk, hc0, hc1⟩ := hr.enAt hlt
        have hsm := HX.out _ (List.mem_of_getElem? hxk)
        dsimp only at hsm
        have hlt' : (k : Int) < (n : Int) := by omega
        cases hv : wordV (bts s)
        · have H1 := Lib.hid (fun W => Calls.flipEntry (implWordValid s W hsm) (v' := .bool false) (by rw [hv]))
          have H2 := H1
          have HB : Hid (entriesV xs = false) := Lib.hid (goodAll_bad (by rw [HL.out]; exact hlt) (goodAt_bad hxk (by unfold entryOk; dsimp only; rw [hv, Bool.false_and])))
          clear hxk hv
          go_wp2_with (first | (go_at_call 59; refine (H1.out _).mono ?_; rintro e w9 ⟨rfl, rfl⟩) | (go_at_call 83; refine (H2.out _).mono ?_; rintro e w9 ⟨rfl, rfl⟩))
          go_ret
          exact ⟨ret_bool HB.out.symm, hB.alloc hB.size _⟩
        · have H1 := Lib.hid (fun W => Calls.flipEntry (implWordValid s W hsm) (v' := .bool true) (by rw [hv]))
          cases hp : printB p
          · have H2 := Lib.hid (fun W => Calls.flipEntry (printValid p W) (v' := .bool false) (by rw [← hp]))
            have HB : Hid (entriesV xs = false) := Lib.hid (goodAll_bad (by rw [HL.out]; exact hlt) (goodAt_bad hxk (by unfold entryOk; dsimp only; rw [hp, Bool.and_false])))
            clear hxk hv hp
            go_wp2_with (first | (go_at_call 59; refine (H1.out _).mono ?_; rintro e w9 ⟨rfl, rfl⟩) | (go_at_call 83; refine (H2.out _).mono ?_; rintro e w9 ⟨rfl, rfl⟩))
            go_ret
            exact ⟨ret_bool HB.out.symm, hB.alloc hB.size _⟩
          · have H2 := Lib.hid (fun W => Calls.flipEntry (printValid p W) (v' := .bool true) (by rw [← hp]))
            have HO : Hid (entryOk (s, p) = true) := Lib.hid (by unfold entryOk; dsimp only; rw [hv, hp]; rfl)
            clear hv hp
            rcases Nat.eq_zero_or_pos k with hk0 | hk0
            · have HK : Hid (goodAt entryOk entryLt xs k = true) := Lib.hid (by subst hk0; exact goodAt_zero hxk HO.out)
              have hk0' : decide (0 < (k : Int)) = false := decide_eq_false (by omega)
              have hk0n : decide (0 < k) = false := decide_eq_false (by omega)
              clear hxk hk0
              go_wp2_with (first | (go_at_call 59; refine (H1.out _).mono ?_; rintro e w9 ⟨rfl, rfl⟩) | (go_at_call 83; refine (H2.out _).mono ?_; rintro e w9 ⟨rfl, rfl⟩))
              go_quiet (fail)
              go_wp2
              go_roundw
              case rel => exact ⟨k + 1, by omega, by go_num, Lib.hid (fun i hi => by rcases Nat.lt_succ_iff_lt_or_eq.1 hi with hi | rfl; exact HG.out i hi; exact HK.out), below_to (hB.alloc hB.size _) (by have := hB.size; simp; omega) (by first | exact below_drewN _ _ | exact below_step (below_drewN _ _) (below_drewN _ _))⟩
              case measure => simp [intOf]; omega
            · obtain ⟨k', hkk⟩ : ∃ k', k = k' + 1 := ⟨k - 1, by omega⟩
              obtain ⟨t, q, hyk, hd0, hd1⟩ := hr.enFrom (show k' < n by omega)
              have hk0' : decide (0 < (k : Int)) = true := decide_eq_true (by omega)
              have hw : IntKind.i64.wrap ((k : Int) - 1) = (k' : Int) := by
                rw [show ((k : Int) - 1) = (k' : Int) from by omega]
                exact IntWalk.i64_in _ (by omega)
              have HKK := Lib.hid hkk
              have hk'n : (k' : Int) < (n : Int) := by omega
              have hk'0 : (0 : Int) ≤ (k' : Int) := Int.natCast_nonneg _
              have HS : Hid (goodAt entryOk entryLt xs k = entryLt (t, q) (s, p)) := Lib.hid (by subst hkk; exact goodAt_succ hxk hyk HO.out)
              clear hkk hxk hyk
              cases hl : Go.Op.bytesLess t.toList s.toList
              · have hl2 : (Go.Op.bytesLess s.toList t.toList || s.toList == t.toList) = true := by rw [bytesLess_total, hl]; rfl
                have HB : Hid (entriesV xs = false) := Lib.hid (goodAll_bad (by rw [HL.out]; exact hlt) (HS.out.trans hl))
                go_wp2_with (first | (go_at_call 59; refine (H1.out _).mono ?_; rintro e w9 ⟨rfl, rfl⟩) | (go_at_call 83; refine (H2.out _).mono ?_; rintro e w9 ⟨rfl, rfl⟩))
                go_quiet (fail)
                go_wp2
                go_ret
                exact ⟨ret_bool HB.out.symm, below_to (hB.alloc hB.size _) (by have := hB.size; simp; omega) (by first | exact below_drewN _ _ | exact below_step (below_drewN _ _) (below_drewN _ _))⟩
              · have hl2 : (Go.Op.bytesLess s.toList t.toList || s.toList == t.toList) = false := by rw [bytesLess_total, hl]; rfl
                have HK : Hid (goodAt entryOk entryLt xs k = true) := Lib.hid (HS.out.trans hl)
                go_wp2_with (first | (go_at_call 59; refine (H1.out _).mono ?_; rintro e w9 ⟨rfl, rfl⟩) | (go_at_call 83; refine (H2.out _).mono ?_; rintro e w9 ⟨rfl, rfl⟩))
                go_quiet (fail)
                go_wp2
                go_roundw
                case rel => exact ⟨k + 1, by omega, by go_num, Lib.hid (fun i hi => by rcases Nat.lt_succ_iff_lt_or_eq.1 hi with hi | rfl; exact HG.out i hi; exact HK.out), below_to (hB.alloc hB.size _) (by have := hB.size; simp; omega) (by first | exact below_drewN _ _ | exact below_step (below_drewN _ _) (below_drewN _ _))⟩
                case measure => simp [intOf]; omega
      · have hkn : k = n := by omega
        subst hkn
        have HF : Hid (entriesV xs = true) := Lib.hid (by unfold entriesV; rw [goodAll_ok (fun i hi => HG.out i (by rw [HL.out] at hi; exact hi)), HL.out, decide_eq_true hM])
        go_wp2
        go_ret
        exact ⟨ret_bool HF.out.symm, hB⟩
  · have hM' : decide (3 < (n : Int)) = true := decide_eq_true (by omega)
    have HF : Hid (entriesV xs = false) := Lib.hid (goodAll_long (by rw [HL.out]; omega))
    go_enter Tryz.func71, Tryz.ntmps71
    go_wp2
    go_ret
    exact ⟨ret_bool HF.out.symm, Below.refl _ _⟩
end Go.Proofs.YtjombaiplnebmaaGreatDoor
