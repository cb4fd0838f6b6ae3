/- Contracts: entries marked, and whether they hold the marks. -/
import Derived.Test.YtfjlocfaibbobaaDoorStrs
import Derived.Test.YtfjlocfaibbobaaDoorEnts
import Derived.Test.YtfjlocfaibbobaaDoorDel
open Go.RowKit
namespace Go.Proofs.YtfjlocfaibbobaaDoor
theorem grown_below0 {a b : World} (h : Below a.heap.size a b) (row : Option Nat) : a.grownBy b row := ⟨h.os, h.tape, h.output, h.size, fun i hi _ => h.block i hi⟩
def marksE (k n : Nat) : List (ByteArray × Int) := (List.range n).map fun i => (markT (k + 2 * i), ((k + 2 * i + 1 : Nat) : Int))
theorem marksE_length (k n : Nat) : (marksE k n).length = n := by simp [marksE]
theorem marksE_at (k n j : Nat) (h : j < n) : (marksE k n)[j]? = some (markT (k + 2 * j), ((k + 2 * j + 1 : Nat) : Int)) := by simp [marksE, h]
theorem marksE_at' (k n j : Nat) (h : j < n) : (marksE k n)[j]? = some (markT (k + 2 * j), (k : Int) + 2 * (j : Int) + 1) :=
  (marksE_at k n j h).trans (by rw [show ((k + 2 * j + 1 : Nat) : Int) = (k : Int) + 2 * (j : Int) + 1 from by omega])
theorem ens_set2 : ∀ (xs : List (ByteArray × Int)) (j : Nat) (s : ByteArray) (p : Int), ((ens xs).set (j * 2) (.string s)).set (j * 2 + 1) (.int .i64 p) = ens (xs.set j (s, p))
  | [], j, s, p => by simp [ens]
  | x :: r, 0, s, p => by simp [ens]
  | x :: r, j + 1, s, p => by
    have ih := ens_set2 r j s p
    rw [show (j + 1) * 2 = j * 2 + 1 + 1 from by omega]
    show (Value.string x.1 :: .int .i64 x.2 :: ((ens r).set (j * 2) (.string s)).set (j * 2 + 1) (.int .i64 p)) = Value.string x.1 :: .int .i64 x.2 :: ens (r.set j (s, p))
    rw [ih]
set_option maxRecDepth 4000 in
set_option maxHeartbeats 1600000 in
theorem markEntryS (base : Nat) (v : Value) (n k : Nat) (xs : List (ByteArray × Int)) (w : World) (h : w.ownsRow base 67 2 v n (ens xs)) (hn : n ≤ 4194304) (hk : 1 ≤ k ∧ k ≤ 8388608) :
    Calls Tryd.prog 41 #[v, .int .i64 (k : Int)] w fun e w' => e = .returned (.int .i64 ((k + 2 * n : Nat) : Int)) ∧ w'.ownsRow base 67 2 v n (ens (marksE k n)) ∧ w.grownBy w' v.ownBlock := by
  obtain ⟨k1, k2⟩ := hk
  have hxl : xs.length = n := by have := h.1; rw [ens_length] at this; omega
  rcases h.2 with ⟨rfl, rfl⟩ | ⟨g, cap, cur, rfl, _, _, hnc, _⟩
  · go_enter Tryd.func41, Tryd.ntmps41
    go_wp2
    go_loopw [1, 5] (fun x i wr => x = .int .i64 (k : Int) ∧ i = .int .i64 0 ∧ wr = w) (fun _ i _ => 0 - (intOf i).toNat)
    case atStart => exact ⟨rfl, rfl, rfl⟩
    case round =>
      obtain ⟨rfl, rfl, rfl⟩ := hrel
      go_wp2
      go_ret
      have e : ens (marksE k 0) = ens xs := by rw [List.eq_nil_of_length_eq_zero hxl]; rfl
      exact ⟨rfl, by rw [e]; exact h, World.grownBy.refl _ _⟩
  · have HX := Lib.hid hxl
    have hml := Lib.hid (show (marksE k n).length = xs.length by rw [marksE_length, hxl])
    clear hxl
    go_enter Tryd.func41, Tryd.ntmps41
    go_wp2
    go_loopw [1, 5] (fun x i wr => ∃ j : Nat, j ≤ n ∧ i = .int .i64 j ∧ x = .int .i64 ((k + 2 * j : Nat) : Int) ∧ wr.ownsRow base 67 2 (.slice (some ⟨g, 0, none⟩) n cap) n (ens (mix (marksE k n) xs j)) ∧ w.grownBy wr (some g)) (fun _ i _ => n - (intOf i).toNat)
    case atStart => exact ⟨0, Nat.zero_le _, rfl, rfl, by rw [mix_zero]; exact h, World.grownBy.refl _ _⟩
    case round =>
      obtain ⟨j, hj, rfl, rfl, hown, hg⟩ := hrel
      by_cases hlt : j < n
      · go_wp2_with fail
        refine (markText (k + 2 * j) _ (by omega) (by omega)).mono ?_
        rintro e w2 ⟨rfl, hb2⟩
        have hown2 := own_below hown hb2
        obtain ⟨u, hu⟩ := own_spare hown2 (j * 2) (by omega)
        obtain ⟨u1, hu1⟩ := own_spare hown2 (j * 2 + 1) (by omega)
        have hfz := hown2.frozenAt (j * 2)
        have hfz1 := hown2.frozenAt (j * 2 + 1)
        have hst := hown2.stored (j * 2) (.string (markT (k + 2 * j)))
        have hst1 := hst.1.stored (j * 2 + 1) (.int .i64 ((k : Int) + 2 * (j : Int) + 1))
        have ho := hst1.1
        rw [ens_set2, mix_set (marksE_at' k n j hlt) hml.out] at ho
        have HST := Lib.hid ho
        have HG := Lib.hid (grown_trans0 (grown_trans0 (grown_trans0 hg (grown_below0 hb2 _)) hst.2) hst1.2)
        clear hst hst1 hown hown2 hg ho
        have hjI : (j : Int) < (n : Int) := by omega
        go_wp2_with fail
        go_roundw
        case rel => exact ⟨j + 1, by omega, by go_num, by go_num, HST.out, HG.out⟩
        case measure => simp [intOf]; omega
      · have hjn : j = n := by omega
        subst hjn
        have e0 := mix_all (marksE k j) xs hml.out
        rw [marksE_length] at e0
        rw [e0] at hown
        clear e0
        go_wp2
        go_ret
        exact ⟨rfl, hown, hg⟩
set_option maxRecDepth 4000 in
set_option maxHeartbeats 1600000 in
theorem heldEntryS (A : Option Addr) (n c k : Nat) (w : World) (h : Rd w 2 A n (ens (marksE k n))) (hn : n ≤ 4194304) (hk : 1 ≤ k ∧ k ≤ 8388608) :
    Calls Tryd.prog 42 #[.slice A n c, .int .i64 (k : Int)] w fun e w' => e = .returned (.int .i64 ((k + 2 * n : Nat) : Int)) ∧ Below w.heap.size w w' := by
  obtain ⟨k1, k2⟩ := hk
  go_enter Tryd.func42, Tryd.ntmps42
  go_wp2
  go_loopw [1, 5] (fun x i wr => ∃ j : Nat, j ≤ n ∧ i = .int .i64 j ∧ x = .int .i64 ((k + 2 * j : Nat) : Int) ∧ Below w.heap.size w wr) (fun _ i _ => n - (intOf i).toNat)
  case atStart => exact ⟨0, Nat.zero_le _, rfl, rfl, Below.refl _ _⟩
  case round =>
    obtain ⟨j, hj, rfl, rfl, hbel⟩ := hrel
    by_cases hlt : j < n
    · obtain ⟨b, off, x, y, rfl, hb, hx, hc, hc1⟩ := h.enAt hlt
      rw [marksE_at' k n j hlt] at hx
      obtain ⟨rfl, rfl⟩ : markT (k + 2 * j) = x ∧ (k : Int) + 2 * (j : Int) + 1 = y := by
        injection hx with hx
        injection hx with h1 h2
        exact ⟨h1, h2⟩
      clear hx
      have hcr : wr.cell? ⟨b, off + j * 2, none⟩ = some (.string (markT (k + 2 * j))) := (hbel.cell hb).trans hc
      have hcr1 : wr.cell? ⟨b, off + j * 2 + 1, none⟩ = some (.int .i64 ((k : Int) + 2 * (j : Int) + 1)) := (hbel.cell hb).trans hc1
      have hbr : b < wr.heap.size := Nat.lt_of_lt_of_le hb hbel.size
      have hjn' : (j : Int) < (n : Int) := by omega
      clear hc hc1
      go_wp2
      go_region_with (go_at_call 68; refine (markText (k + 2 * j) _ (by omega) (by omega)).mono ?_; rintro e w2 ⟨rfl, hb2⟩; have hc2 : w2.cell? ⟨b, off + j * 2, none⟩ = some (.string (markT (k + 2 * j))) := (hb2.cell hbr).trans hcr; have hc3 : w2.cell? ⟨b, off + j * 2 + 1, none⟩ = some (.int .i64 ((k : Int) + 2 * (j : Int) + 1)) := (hb2.cell hbr).trans hcr1)
      all_goals
        have hb3 := below_step hbel (below_step (below_drewN wr 1) hb2)
        go_wp2
        go_roundw
        case rel => exact ⟨j + 1, by omega, by go_num, by go_num, hb3⟩
        case measure => simp [intOf]; omega
    · have hjn : j = n := by omega
      subst hjn
      go_wp2
      go_ret
      exact ⟨rfl, hbel⟩
end Go.Proofs.YtfjlocfaibbobaaDoor
