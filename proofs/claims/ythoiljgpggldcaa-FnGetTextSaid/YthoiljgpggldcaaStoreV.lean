/- Contracts of what says whether a store is valid. -/
import Derived.Test.YthoiljgpggldcaaWords
import Derived.Test.YthoiljgpggldcaaM1
import Derived.Test.YthoiljgpggldcaaM2
import Derived.BigQuiet
import Derived.Deep.QuietTactic
open Go.RowKit
namespace Go.Proofs.Ythoiljgpggldcaa
theorem Calls.flipPiece {P : Program} {f : FuncId} {args : Array Value} {W : World} {v v' : Value} (h : Calls P f args W fun e w' => e = .returned v ∧ W = w') (hv : v = v') : Calls P f args W fun e w' => e = .returned v' ∧ w' = W :=
  h.mono fun _ _ ⟨he, hw⟩ => ⟨by rw [he, hv], hw.symm⟩
theorem Rd.pcFrom {w : World} {n k b off : Nat} {xs : List (Int × ByteArray)} (h : Rd w 2 (some ⟨b, off, none⟩) n (pcs xs)) (hk : k < n) : ∃ p s, xs[k]? = some (p, s) ∧ w.cell? ⟨b, off + k * 2, none⟩ = some (.int .i64 p) ∧ w.cell? ⟨b, off + k * 2 + 1, none⟩ = some (.string s) := by
  obtain ⟨b', off', p, s, e, _, h1, h2, h3⟩ := h.pcAt hk
  injection e with e
  injection e with e1 e2
  subst e1 e2
  exact ⟨p, s, h1, h2, h3⟩
set_option maxRecDepth 4000 in
set_option maxHeartbeats 3200000 in
theorem specStoreValid (A : Option Addr) (n c : Nat) (xs : List (Int × ByteArray)) (w : World) (h : Rd w 2 A n (pcs xs)) (hx : ∀ x ∈ xs, x.2.size ≤ maxLen) (hn : n ≤ 4194304) :
    Calls Try.prog 7 #[.slice A n c] w fun e w' => e = .returned (.bool (storeV xs)) ∧ ∃ k, w' = w.drewN k := by
  have HL := Lib.hid h.pcLen
  have HX := Lib.hid hx
  clear hx
  go_enter Try.func7, Try.ntmps7
  go_wp2
  go_loopw [3] (fun i wr => ∃ k : Nat, k ≤ n ∧ i = .int .i64 k ∧ Hid (∀ i, i < k → goodAt pieceOk pieceLt xs i = true) ∧ ∃ j, wr = w.drewN j) (fun i _ => n - (intOf i).toNat)
  case atStart => exact ⟨0, Nat.zero_le _, rfl, Lib.hid (fun i hi => absurd hi (Nat.not_lt_zero _)), 0, rfl⟩
  case round =>
    obtain ⟨k, hk, rfl, HG, j, hwr⟩ := hrel
    have hr : Rd wr 2 A n (pcs xs) := by rw [hwr]; exact h.drewN j
    have HW := Lib.hid hwr
    clear hwr
    by_cases hlt : k < n
    · obtain ⟨b, off, p, s, rfl, _, hxk, hc0, hc1⟩ := hr.pcAt hlt
      have hsm := HX.out _ (List.mem_of_getElem? hxk)
      dsimp only at hsm
      have hlt' : (k : Int) < (n : Int) := by omega
      cases hv : textV (bts s)
      · have H1 := Lib.hid (fun W => Calls.flipPiece (specTextValid s W hsm) (v' := .bool false) (by rw [hv]))
        have H2 := H1
        have HB : Hid (storeV xs = false) := Lib.hid (goodAll_bad (by rw [HL.out]; exact hlt) (goodAt_bad hxk (by unfold pieceOk; dsimp only; rw [hv, Bool.false_and])))
        clear hxk hv
        go_wp2
        go_quiet (first | (go_at_call 16; exact Calls.quiet_of_same (H1.out _)) | (go_at_call 17; exact Calls.quiet_of_same (H2.out _)))
        go_wp2
        go_ret
        exact ⟨ret_bool HB.out.symm, _, by first | exact HW.out | rw [HW.out, World.drewN_drewN]⟩
      · have H1 := Lib.hid (fun W => Calls.flipPiece (specTextValid s W hsm) (v' := .bool true) (by rw [hv]))
        have H2 := Lib.hid (fun W => Calls.flipPiece (specPrintOf s W hsm) (v' := .int .i64 (printP s)) rfl)
        by_cases hp : p = printP s
        case neg =>
          have hpf : (printP s == p) = false := beq_eq_false_iff_ne.2 (fun e => hp e.symm)
          have hpf' : (p == printP s) = false := beq_eq_false_iff_ne.2 hp
          have hpg : (printP s != p) = true := by rw [bne, hpf]; rfl
          have hpg' : (p != printP s) = true := by rw [bne, hpf']; rfl
          have HB : Hid (storeV xs = false) := Lib.hid (goodAll_bad (by rw [HL.out]; exact hlt) (goodAt_bad hxk (by unfold pieceOk; dsimp only; rw [hpf, Bool.and_false])))
          clear hxk hv hp
          go_wp2
          go_quiet (first | (go_at_call 16; exact Calls.quiet_of_same (H1.out _)) | (go_at_call 17; exact Calls.quiet_of_same (H2.out _)))
          go_wp2
          go_ret
          exact ⟨ret_bool HB.out.symm, _, by first | exact HW.out | rw [HW.out, World.drewN_drewN]⟩
        case pos =>
          subst hp
          have HO : Hid (pieceOk (printP s, s) = true) := Lib.hid (by unfold pieceOk; dsimp only; rw [hv, beq_self_eq_true]; rfl)
          have hpe : (printP s != printP s) = false := bne_self_eq_false _
          clear hv
          rcases Nat.eq_zero_or_pos k with hk0 | hk0
          · have HK : Hid (goodAt pieceOk pieceLt xs k = true) := Lib.hid (by subst hk0; exact goodAt_zero hxk HO.out)
            have hk0' : decide (0 < (k : Int)) = false := decide_eq_false (by omega)
            have hk0n : decide (0 < k) = false := decide_eq_false (by omega)
            clear hxk hk0
            go_wp2
            go_quiet (first | (go_at_call 16; exact Calls.quiet_of_same (H1.out _)) | (go_at_call 17; exact Calls.quiet_of_same (H2.out _)))
            go_wp2
            go_roundw
            case rel => exact ⟨k + 1, by omega, by go_num, Lib.hid (fun i hi => by rcases Nat.lt_succ_iff_lt_or_eq.1 hi with hi | rfl; exact HG.out i hi; exact HK.out), _, by first | exact HW.out | rw [HW.out, World.drewN_drewN]⟩
            case measure => simp [intOf]; omega
          · obtain ⟨k', hkk⟩ : ∃ k', k = k' + 1 := ⟨k - 1, by omega⟩
            obtain ⟨q, t, hyk, hd0, hd1⟩ := hr.pcFrom (show k' < n by omega)
            have hk0' : decide (0 < (k : Int)) = true := decide_eq_true (by omega)
            have hw : IntKind.i64.wrap ((k : Int) - 1) = (k' : Int) := by
              rw [show ((k : Int) - 1) = (k' : Int) from by omega]
              exact IntWalk.i64_in _ (by omega)
            have HKK := Lib.hid hkk
            have hk'n : (k' : Int) < (n : Int) := by omega
            have hk'0 : (0 : Int) ≤ (k' : Int) := Int.natCast_nonneg _
            have HS : Hid (goodAt pieceOk pieceLt xs k = pieceLt (q, t) (printP s, s)) := Lib.hid (by subst hkk; exact goodAt_succ hxk hyk HO.out)
            clear hkk hxk hyk
            by_cases hl : q < printP s
            · have hl2 : decide (printP s ≤ q) = false := decide_eq_false (by omega)
              have HK : Hid (goodAt pieceOk pieceLt xs k = true) := Lib.hid (HS.out.trans (decide_eq_true hl))
              go_wp2
              go_quiet (first | (go_at_call 16; exact Calls.quiet_of_same (H1.out _)) | (go_at_call 17; exact Calls.quiet_of_same (H2.out _)))
              go_wp2
              go_roundw
              case rel => exact ⟨k + 1, by omega, by go_num, Lib.hid (fun i hi => by rcases Nat.lt_succ_iff_lt_or_eq.1 hi with hi | rfl; exact HG.out i hi; exact HK.out), _, by first | exact HW.out | rw [HW.out, World.drewN_drewN]⟩
              case measure => simp [intOf]; omega
            · have hl2 : decide (printP s ≤ q) = true := decide_eq_true (by omega)
              have HB : Hid (storeV xs = false) := Lib.hid (goodAll_bad (by rw [HL.out]; exact hlt) (HS.out.trans (decide_eq_false hl)))
              go_wp2
              go_quiet (first | (go_at_call 16; exact Calls.quiet_of_same (H1.out _)) | (go_at_call 17; exact Calls.quiet_of_same (H2.out _)))
              go_wp2
              go_ret
              exact ⟨ret_bool HB.out.symm, _, by first | exact HW.out | rw [HW.out, World.drewN_drewN]⟩
    · have hkn : k = n := by omega
      subst hkn
      have HE : Hid (storeV xs = decide (k ≤ 40)) := Lib.hid (by unfold storeV; rw [goodAll_ok (fun i hi => HG.out i (by rw [HL.out] at hi; exact hi)), HL.out])
      by_cases hm : k ≤ 40
      · have HF := Lib.hid (HE.out.trans (decide_eq_true hm))
        have hm' : decide ((k : Int) ≤ 40) = true := decide_eq_true (by omega)
        go_wp2
        go_ret
        exact ⟨ret_bool HF.out.symm, _, HW.out⟩
      · have HF := Lib.hid (HE.out.trans (decide_eq_false hm))
        have hm' : decide ((k : Int) ≤ 40) = false := decide_eq_false (by omega)
        go_wp2
        go_ret
        exact ⟨ret_bool HF.out.symm, _, HW.out⟩
set_option maxRecDepth 4000 in
set_option maxHeartbeats 3200000 in
theorem implStoreValid (A : Option Addr) (n c : Nat) (xs : List (Int × ByteArray)) (w : World) (h : Rd w 2 A n (pcs xs)) (hx : ∀ x ∈ xs, x.2.size ≤ maxLen) :
    Calls Try.prog 6 #[.slice A n c] w fun e w' => e = .returned (.bool (storeV xs)) ∧ Below w.heap.size w w' := by
  have HL := Lib.hid h.pcLen
  have HX := Lib.hid hx
  clear hx
  by_cases hM : n ≤ 40
  · have hM' : decide (40 < (n : Int)) = false := decide_eq_false (by omega)
    go_enter Try.func6, Try.ntmps6
    go_wp2
    go_loopw [3, 4, 10] (fun _ _ i wr => ∃ k : Nat, k ≤ n ∧ i = .int .i64 k ∧ Hid (∀ i, i < k → goodAt pieceOk pieceLt xs i = true) ∧ Below w.heap.size w wr) (fun _ _ i _ => n - (intOf i).toNat)
    case atStart => exact ⟨0, Nat.zero_le _, rfl, Lib.hid (fun i hi => absurd hi (Nat.not_lt_zero _)), Below.refl _ _⟩
    case round =>
      obtain ⟨k, hk, rfl, HG, hB⟩ := hrel
      have hr : Rd wr 2 A n (pcs xs) := h.below hB
      by_cases hlt : k < n
      · obtain ⟨b, off, p, s, rfl, hbb, hxk, hc0, hc1⟩ := hr.pcAt hlt
        have hsm := HX.out _ (List.mem_of_getElem? hxk)
        dsimp only at hsm
        have hlt' : (k : Int) < (n : Int) := by omega
        cases hv : textV (bts s)
        · have H1 := Lib.hid (fun W => Calls.flipPiece (implTextValid s W hsm) (v' := .bool false) (by rw [hv]))
          have H2 := H1
          have HB : Hid (storeV xs = false) := Lib.hid (goodAll_bad (by rw [HL.out]; exact hlt) (goodAt_bad hxk (by unfold pieceOk; dsimp only; rw [hv, Bool.false_and])))
          clear hxk hv
          go_wp2
          go_quiet (first | (go_at_call 15; exact Calls.quiet_of_same (H1.out _)) | (go_at_call 12; exact Calls.quiet_of_same (H2.out _)))
          go_wp2
          go_ret
          exact ⟨ret_bool HB.out.symm, below_to (hB.alloc hB.size _) (by have := hB.size; simp; omega) (by first | exact below_drewN _ _ | exact below_step (below_drewN _ _) (below_drewN _ _))⟩
        · have H1 := Lib.hid (fun W => Calls.flipPiece (implTextValid s W hsm) (v' := .bool true) (by rw [hv]))
          have H2 := Lib.hid (fun W => Calls.flipPiece (implPrintOf s W hsm) (v' := .int .i64 (printP s)) rfl)
          by_cases hp : p = printP s
          case neg =>
            have hpf : (printP s == p) = false := beq_eq_false_iff_ne.2 (fun e => hp e.symm)
            have hpf' : (p == printP s) = false := beq_eq_false_iff_ne.2 hp
            have hpg : (printP s != p) = true := by rw [bne, hpf]; rfl
            have hpg' : (p != printP s) = true := by rw [bne, hpf']; rfl
            have HB : Hid (storeV xs = false) := Lib.hid (goodAll_bad (by rw [HL.out]; exact hlt) (goodAt_bad hxk (by unfold pieceOk; dsimp only; rw [hpf, Bool.and_false])))
            clear hxk hv hp
            go_wp2
            go_quiet (first | (go_at_call 15; exact Calls.quiet_of_same (H1.out _)) | (go_at_call 12; exact Calls.quiet_of_same (H2.out _)))
            go_wp2
            go_ret
            exact ⟨ret_bool HB.out.symm, below_to (hB.alloc hB.size _) (by have := hB.size; simp; omega) (by first | exact below_drewN _ _ | exact below_step (below_drewN _ _) (below_drewN _ _))⟩
          case pos =>
            subst hp
            have HO : Hid (pieceOk (printP s, s) = true) := Lib.hid (by unfold pieceOk; dsimp only; rw [hv, beq_self_eq_true]; rfl)
            have hpe : (printP s != printP s) = false := bne_self_eq_false _
            clear hv
            rcases Nat.eq_zero_or_pos k with hk0 | hk0
            · have HK : Hid (goodAt pieceOk pieceLt xs k = true) := Lib.hid (by subst hk0; exact goodAt_zero hxk HO.out)
              have hk0' : decide (0 < (k : Int)) = false := decide_eq_false (by omega)
              have hk0n : decide (0 < k) = false := decide_eq_false (by omega)
              clear hxk hk0
              go_wp2
              go_quiet (first | (go_at_call 15; exact Calls.quiet_of_same (H1.out _)) | (go_at_call 12; exact Calls.quiet_of_same (H2.out _)))
              go_wp2
              go_quiet (fail)
              go_wp2
              go_roundw
              case rel => exact ⟨k + 1, by omega, by go_num, Lib.hid (fun i hi => by rcases Nat.lt_succ_iff_lt_or_eq.1 hi with hi | rfl; exact HG.out i hi; exact HK.out), below_to (hB.alloc hB.size _) (by have := hB.size; simp; omega) (by first | exact below_drewN _ _ | exact below_step (below_drewN _ _) (below_drewN _ _))⟩
              case measure => simp [intOf]; omega
            · obtain ⟨k', hkk⟩ : ∃ k', k = k' + 1 := ⟨k - 1, by omega⟩
              obtain ⟨q, t, hyk, hd0, hd1⟩ := hr.pcFrom (show k' < n by omega)
              have hk0' : decide (0 < (k : Int)) = true := decide_eq_true (by omega)
              have hw : IntKind.i64.wrap ((k : Int) - 1) = (k' : Int) := by
                rw [show ((k : Int) - 1) = (k' : Int) from by omega]
                exact IntWalk.i64_in _ (by omega)
              have HKK := Lib.hid hkk
              have hk'n : (k' : Int) < (n : Int) := by omega
              have hk'0 : (0 : Int) ≤ (k' : Int) := Int.natCast_nonneg _
              have HS : Hid (goodAt pieceOk pieceLt xs k = pieceLt (q, t) (printP s, s)) := Lib.hid (by subst hkk; exact goodAt_succ hxk hyk HO.out)
              clear hkk hxk hyk
              by_cases hl : q < printP s
              · have hl2 : decide (printP s ≤ q) = false := decide_eq_false (by omega)
                have HK : Hid (goodAt pieceOk pieceLt xs k = true) := Lib.hid (HS.out.trans (decide_eq_true hl))
                go_wp2
                go_quiet (first | (go_at_call 15; exact Calls.quiet_of_same (H1.out _)) | (go_at_call 12; exact Calls.quiet_of_same (H2.out _)))
                go_wp2
                go_quiet (fail)
                go_wp2
                go_roundw
                case rel => exact ⟨k + 1, by omega, by go_num, Lib.hid (fun i hi => by rcases Nat.lt_succ_iff_lt_or_eq.1 hi with hi | rfl; exact HG.out i hi; exact HK.out), below_to (hB.alloc hB.size _) (by have := hB.size; simp; omega) (by first | exact below_drewN _ _ | exact below_step (below_drewN _ _) (below_drewN _ _))⟩
                case measure => simp [intOf]; omega
              · have hl2 : decide (printP s ≤ q) = true := decide_eq_true (by omega)
                have HB : Hid (storeV xs = false) := Lib.hid (goodAll_bad (by rw [HL.out]; exact hlt) (HS.out.trans (decide_eq_false hl)))
                go_wp2
                go_quiet (first | (go_at_call 15; exact Calls.quiet_of_same (H1.out _)) | (go_at_call 12; exact Calls.quiet_of_same (H2.out _)))
                go_wp2
                go_quiet (fail)
                go_wp2
                go_ret
                exact ⟨ret_bool HB.out.symm, below_to (hB.alloc hB.size _) (by have := hB.size; simp; omega) (by first | exact below_drewN _ _ | exact below_step (below_drewN _ _) (below_drewN _ _))⟩
      · have hkn : k = n := by omega
        subst hkn
        have HF : Hid (storeV xs = true) := Lib.hid (by unfold storeV; rw [goodAll_ok (fun i hi => HG.out i (by rw [HL.out] at hi; exact hi)), HL.out, decide_eq_true hM])
        go_wp2
        go_ret
        exact ⟨ret_bool HF.out.symm, hB⟩
  · have hM' : decide (40 < (n : Int)) = true := decide_eq_true (by omega)
    have HF : Hid (storeV xs = false) := Lib.hid (goodAll_long (by rw [HL.out]; omega))
    go_enter Try.func6, Try.ntmps6
    go_wp2
    go_ret
    exact ⟨ret_bool HF.out.symm, Below.refl _ _⟩
end Go.Proofs.Ythoiljgpggldcaa
