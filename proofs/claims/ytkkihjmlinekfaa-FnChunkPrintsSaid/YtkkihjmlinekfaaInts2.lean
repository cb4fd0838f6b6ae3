/- Contracts of what a law does with lists of numbers: marks, looks, compares. -/
import Derived.Test.YtkkihjmlinekfaaInts
open Go.RowKit
namespace Go.Proofs.Ytkkihjmlinekfaa
theorem grown_trans'' {a b c : World} {row : Option Nat} (h : a.grownBy b row) (k : b.grownBy c row) : a.grownBy c row :=
  ⟨k.os.trans h.os, k.tape.trans h.tape, k.output.trans h.output, Nat.le_trans h.size k.size, fun i hi hne => (k.block i (Nat.lt_of_lt_of_le hi h.size) hne).trans (h.block i hi hne)⟩
/-- The numbers k, k + 1, .. -/
def marksI (k n : Nat) : List Int := (List.range n).map fun i => ((k + i : Nat) : Int)
theorem marksI_length (k n : Nat) : (marksI k n).length = n := by simp [marksI]
theorem marksI_at (k n j : Nat) (h : j < n) : (marksI k n)[j]? = some ((k + j : Nat) : Int) := by simp [marksI, h]

set_option maxHeartbeats 400000 in
theorem markIntS (base : Nat) (v : Value) (n k : Nat) (xs : List Int) (w : World) (h : w.ownsRow base 3 1 v n (ints xs)) (hn : n ≤ 4194304) (hk : k ≤ 8388608) :
    Calls Try.prog 30 #[v, .int .i64 (k : Int)] w fun e w' => e = .returned (.int .i64 ((k + n : Nat) : Int)) ∧ w'.ownsRow base 3 1 v n (ints (marksI k n)) ∧ w.grownBy w' v.ownBlock := by
  rcases h.2 with ⟨rfl, rfl⟩ | ⟨g, cap, cur, rfl, _⟩
  · go_enter Try.func30, Try.ntmps30
    go_wp2
    go_loopw [1, 5] (fun x i wr => x = .int .i64 (k : Int) ∧ i = .int .i64 0 ∧ wr = w) (fun _ i _ => 0 - (intOf i).toNat)
    case atStart => exact ⟨rfl, rfl, rfl⟩
    case round =>
      obtain ⟨rfl, rfl, rfl⟩ := hrel
      go_wp2
      go_ret
      have e : ints (marksI k 0) = ints xs := by
        have h1 := h.1
        rw [show ints xs = [] from List.eq_nil_of_length_eq_zero (by simpa using h1)]
        rfl
      exact ⟨rfl, by rw [e]; exact h, World.grownBy.refl _ _⟩
  · have hxl : xs.length = n := by have := h.1; rw [ints_length] at this; omega
    have HX := Lib.hid hxl
    have hml := Lib.hid (show (ints (marksI k n)).length = (ints xs).length by rw [ints_length, ints_length, marksI_length, hxl])
    clear hxl
    go_enter Try.func30, Try.ntmps30
    go_wp2
    go_loopw [1, 5] (fun x i wr => ∃ j : Nat, j ≤ n ∧ i = .int .i64 j ∧ x = .int .i64 ((k : Int) + j) ∧ wr.ownsRow base 3 1 (.slice (some ⟨g, 0, none⟩) n cap) n (mix (ints (marksI k n)) (ints xs) j) ∧ w.grownBy wr (some g)) (fun _ i _ => n - (intOf i).toNat)
    case atStart => exact ⟨0, Nat.zero_le _, rfl, by simp, by rw [mix_zero]; exact h, World.grownBy.refl _ _⟩
    case round =>
      obtain ⟨j, hj, rfl, rfl, hown, hg⟩ := hrel
      by_cases hlt : j < n
      · obtain ⟨u, hu⟩ : ∃ u, wr.cell? ⟨g, j, none⟩ = some u := by
          rw [hown.cellAt j (by omega), mix_get hml.out (by rw [ints_length, HX.out]; exact hlt)]
          exact ⟨_, List.getElem?_eq_getElem (by rw [ints_length, HX.out]; exact hlt)⟩
        have hfz := hown.frozenAt j
        have hst := hown.stored j (.int .i64 ((k : Int) + j))
        have hst1 := hst.1
        rw [mix_set (show (ints (marksI k n))[j]? = some (.int .i64 ((k : Int) + j)) by simp [ints, marksI_at k n j hlt]) hml.out] at hst1
        have HST := Lib.hid hst1
        have HG := Lib.hid (grown_trans'' hg hst.2)
        clear hst hst1 hown hg
        go_wp2
        go_roundw
        case rel => exact ⟨j + 1, by omega, by go_num, by go_num, HST.out, HG.out⟩
        case measure => simp [intOf]; omega
      · have hjn : j = n := by omega
        subst hjn
        have e0 := mix_all (ints (marksI k j)) (ints xs) hml.out
        rw [ints_length, marksI_length] at e0
        rw [e0] at hown
        clear e0
        go_wp2
        go_ret
        exact ⟨by simp, hown, hg⟩
set_option maxHeartbeats 400000 in
theorem heldIntS (A : Option Addr) (n c k : Nat) (w : World) (h : Rd w 1 A n (ints (marksI k n))) (hn : n ≤ 4194304) (hk : k ≤ 8388608) :
    Calls Try.prog 31 #[.slice A n c, .int .i64 (k : Int)] w fun e w' => e = .returned (.int .i64 ((k + n : Nat) : Int)) ∧ w = w' := by
  go_enter Try.func31, Try.ntmps31
  go_wp2
  go_loop [1, 5] (fun x i => ∃ j : Nat, j ≤ n ∧ i = .int .i64 j ∧ x = .int .i64 ((k : Int) + j)) (fun _ i => n - (intOf i).toNat)
  case atStart => exact ⟨0, Nat.zero_le _, rfl, by simp⟩
  case round =>
    obtain ⟨j, hj, rfl, rfl⟩ := hrel
    by_cases hlt : j < n
    · obtain ⟨b, off, x, rfl, _, hx, hc⟩ := h.intAt hlt
      rw [marksI_at k n j hlt] at hx
      obtain rfl : ((k + j : Nat) : Int) = x := by injection hx
      clear hx
      have hc' : w.cell? ⟨b, off + j, none⟩ = some (.int .i64 ((k : Int) + j)) := by rw [hc]; simp
      clear hc
      go_wp2
      go_round
      case rel => exact ⟨j + 1, by omega, by go_num, by go_num⟩
      case measure => simp [intOf]; omega
    · have hjn : j = n := by omega
      subst hjn
      go_wp2
      go_ret
      exact ⟨by simp, rfl⟩
set_option maxHeartbeats 800000 in
theorem sameInts (A B : Option Addr) (n m c d : Nat) (xs ys : List Int) (w : World) (ha : Rd w 1 A n (ints xs)) (hb : Rd w 1 B m (ints ys)) (hn : n ≤ 4194304) :
    Calls Try.prog 44 #[.slice A n c, .slice B m d] w fun e w' => e = .returned (.bool (decide (xs = ys))) ∧ ∃ k, w' = w.drewN k := by
  have hxl := ha.intLen
  have hyl := hb.intLen
  by_cases hnm : n = m
  · subst hnm
    have HX := Lib.hid hxl
    have HY := Lib.hid hyl
    clear hxl hyl
    go_enter Try.func44, Try.ntmps44
    go_wp2
    go_loopw [5] (fun i wr => ∃ k : Nat, k ≤ n ∧ i = .int .i64 k ∧ Hid (xs.take k = ys.take k) ∧ ∃ j, wr = w.drewN j) (fun i _ => n - (intOf i).toNat)
    case atStart => exact ⟨0, Nat.zero_le _, rfl, Lib.hid rfl, 0, rfl⟩
    case round =>
      obtain ⟨k, hk, rfl, heq, j, rfl⟩ := hrel
      by_cases hlt : k < n
      · obtain ⟨b, off, x, rfl, _, hx, hc⟩ := ha.intAt hlt
        obtain ⟨b', off', y, rfl, _, hy, hc'⟩ := hb.intAt hlt
        have HX1 := Lib.hid hx
        have HY1 := Lib.hid hy
        clear hx hy
        have hlt' : (k : Int) < (n : Int) := by omega
        by_cases hxy : x = y
        · subst hxy
          go_wp2
          go_quiet (fail)
          go_wp2
          go_roundw
          case rel => exact ⟨k + 1, by omega, by go_num, Lib.hid (by rw [take_snoc HX1.out, take_snoc HY1.out, heq.out]), _, by first | exact rfl | exact World.drewN_drewN _ _ _⟩
          case measure => simp [intOf]; omega
        · go_wp2
          go_quiet (fail)
          go_wp2
          go_ret
          refine ⟨ret_bool (decide_eq_false ?_).symm, _, by first | exact rfl | exact World.drewN_drewN _ _ _⟩
          rintro rfl
          have := HX1.out.symm.trans HY1.out
          exact hxy (by injection this)
      · have hkn : k = n := by omega
        subst hkn
        go_wp2
        go_ret
        refine ⟨ret_bool (decide_eq_true ?_).symm, _, rfl⟩
        have h1 := heq.out
        rwa [List.take_of_length_le (by rw [HX.out]; exact Nat.le_refl _), List.take_of_length_le (by rw [HY.out]; exact Nat.le_refl _)] at h1
  · have hne : ¬ xs = ys := by rintro rfl; omega
    have HN := Lib.hid hne
    clear hne hxl hyl
    go_enter Try.func44, Try.ntmps44
    go_wp2
    go_ret
    exact ⟨ret_bool (decide_eq_false HN.out).symm, 0, rfl⟩
end Go.Proofs.Ytkkihjmlinekfaa
