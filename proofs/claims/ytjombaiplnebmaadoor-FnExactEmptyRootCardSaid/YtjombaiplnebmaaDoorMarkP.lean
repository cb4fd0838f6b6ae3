/- Contracts: pieces marked, and whether they hold the marks. -/
import Derived.Test.YtjombaiplnebmaaDoorStrs
import Derived.Test.YtjombaiplnebmaaDoorPcs
import Derived.Test.YtjombaiplnebmaaDoorIns
import Derived.Test.YtjombaiplnebmaaDoorDel
open Go.RowKit
namespace Go.Proofs.YtjombaiplnebmaaDoor
theorem grown_belowP {a b : World} (h : Below a.heap.size a b) (row : Option Nat) : a.grownBy b row := ⟨h.os, h.tape, h.output, h.size, fun i hi _ => h.block i hi⟩
def marksP (k n : Nat) : List (Int × ByteArray) := (List.range n).map fun i => (((k + 2 * i : Nat) : Int), markT (k + 2 * i + 1))
theorem marksP_length (k n : Nat) : (marksP k n).length = n := by simp [marksP]
theorem marksP_at (k n j : Nat) (h : j < n) : (marksP k n)[j]? = some (((k + 2 * j : Nat) : Int), markT (k + 2 * j + 1)) := by simp [marksP, h]
theorem marksP_at' (k n j : Nat) (h : j < n) : (marksP k n)[j]? = some ((k : Int) + 2 * (j : Int), markT (k + 2 * j + 1)) :=
  (marksP_at k n j h).trans (by rw [show ((k + 2 * j : Nat) : Int) = (k : Int) + 2 * (j : Int) from by omega])
theorem pcs_set2 : ∀ (xs : List (Int × ByteArray)) (j : Nat) (p : Int) (s : ByteArray), ((pcs xs).set (j * 2) (.int .i64 p)).set (j * 2 + 1) (.string s) = pcs (xs.set j (p, s))
  | [], j, p, s => by simp [pcs]
  | x :: r, 0, p, s => by simp [pcs]
  | x :: r, j + 1, p, s => by
    have ih := pcs_set2 r j p s
    rw [show (j + 1) * 2 = j * 2 + 1 + 1 from by omega]
    show (Value.int .i64 x.1 :: .string x.2 :: ((pcs r).set (j * 2) (.int .i64 p)).set (j * 2 + 1) (.string s)) = Value.int .i64 x.1 :: .string x.2 :: pcs (r.set j (p, s))
    rw [ih]
theorem own_cell {w : World} {base g cap n : Nat} {e : TypeId} {xs : List Value} (h : w.ownsRow base e 2 (.slice (some ⟨g, 0, none⟩) n cap) n xs) (j : Nat) (hj : j < cap * 2) : ∃ u, w.cell? ⟨g, j, none⟩ = some u := Option.isSome_iff_exists.1 (own_some h j hj)
set_option maxRecDepth 4000 in
set_option maxHeartbeats 1600000 in
theorem markPieceS (base : Nat) (v : Value) (n k : Nat) (xs : List (Int × ByteArray)) (w : World) (h : w.ownsRow base 63 2 v n (pcs xs)) (hn : n ≤ 4194304) (hk : 1 ≤ k ∧ k ≤ 8388608) :
    Calls Tryd.prog 17 #[v, .int .i64 (k : Int)] w fun e w' => e = .returned (.int .i64 ((k + 2 * n : Nat) : Int)) ∧ w'.ownsRow base 63 2 v n (pcs (marksP k n)) ∧ w.grownBy w' v.ownBlock := by
  obtain ⟨k1, k2⟩ := hk
  have hxl : xs.length = n := by have := h.1; rw [pcs_length] at this; omega
  rcases h.2 with ⟨rfl, rfl⟩ | ⟨g, cap, cur, rfl, _, _, hnc, _⟩
  · go_enter Tryd.func17, Tryd.ntmps17
    go_wp2
    go_loopw [1, 5] (fun x i wr => x = .int .i64 (k : Int) ∧ i = .int .i64 0 ∧ wr = w) (fun _ i _ => 0 - (intOf i).toNat)
    case atStart => exact ⟨rfl, rfl, rfl⟩
    case round =>
      obtain ⟨rfl, rfl, rfl⟩ := hrel
      go_wp2
      go_ret
      have e : pcs (marksP k 0) = pcs xs := by rw [List.eq_nil_of_length_eq_zero hxl]; rfl
      exact ⟨rfl, by rw [e]; exact h, World.grownBy.refl _ _⟩
  · have HX := Lib.hid hxl
    have hml := Lib.hid (show (marksP k n).length = xs.length by rw [marksP_length, hxl])
    clear hxl
    go_enter Tryd.func17, Tryd.ntmps17
    go_wp2
    go_loopw [1, 5] (fun x i wr => ∃ j : Nat, j ≤ n ∧ i = .int .i64 j ∧ x = .int .i64 ((k + 2 * j : Nat) : Int) ∧ wr.ownsRow base 63 2 (.slice (some ⟨g, 0, none⟩) n cap) n (pcs (mix (marksP k n) xs j)) ∧ w.grownBy wr (some g)) (fun _ i _ => n - (intOf i).toNat)
    case atStart => exact ⟨0, Nat.zero_le _, rfl, rfl, by rw [mix_zero]; exact h, World.grownBy.refl _ _⟩
    case round =>
      obtain ⟨j, hj, rfl, rfl, hown, hg⟩ := hrel
      by_cases hlt : j < n
      · obtain ⟨u, hu⟩ := own_cell hown (j * 2) (by omega)
        have hfz := hown.frozenAt (j * 2)
        have hst := hown.stored (j * 2) (.int .i64 ((k : Int) + 2 * (j : Int)))
        have hjI : (j : Int) < (n : Int) := by omega
        have hmt := fun W => markText (k + 2 * j + 1) W (by omega) (by omega)
        rw [show ((k + 2 * j + 1 : Nat) : Int) = (k : Int) + 2 * (j : Int) + 1 from by omega] at hmt
        have HMT := Lib.hid hmt
        clear hmt
        go_wp2_with fail
        refine (HMT.out _).mono ?_
        rintro e w2 ⟨rfl, hb2⟩
        have hown2 := own_below hst.1 hb2
        obtain ⟨u1, hu1⟩ := own_cell hown2 (j * 2 + 1) (by omega)
        have hfz1 := hown2.frozenAt (j * 2 + 1)
        have hst1 := hown2.stored (j * 2 + 1) (.string (markT (k + 2 * j + 1)))
        have ho := hst1.1
        rw [pcs_set2, mix_set (marksP_at' k n j hlt) hml.out] at ho
        have HST := Lib.hid ho
        have HG := Lib.hid (grow2 (grow2 (grow2 hg hst.2) (grown_belowP hb2 _)) hst1.2)
        clear hst hst1 hown hown2 hg ho
        go_wp2_with fail
        go_roundw
        case rel => exact ⟨j + 1, by omega, by go_num, by go_num, HST.out, HG.out⟩
        case measure => simp [intOf]; omega
      · have hjn : j = n := by omega
        subst hjn
        have e0 := mix_all (marksP k j) xs hml.out
        rw [marksP_length] at e0
        rw [e0] at hown
        clear e0
        go_wp2
        go_ret
        exact ⟨rfl, hown, hg⟩
set_option maxRecDepth 4000 in
set_option maxHeartbeats 1600000 in
theorem heldPieceS (A : Option Addr) (n c k : Nat) (w : World) (h : Rd w 2 A n (pcs (marksP k n))) (hn : n ≤ 4194304) (hk : 1 ≤ k ∧ k ≤ 8388608) :
    Calls Tryd.prog 18 #[.slice A n c, .int .i64 (k : Int)] w fun e w' => e = .returned (.int .i64 ((k + 2 * n : Nat) : Int)) ∧ Below w.heap.size w w' := by
  obtain ⟨k1, k2⟩ := hk
  go_enter Tryd.func18, Tryd.ntmps18
  go_wp2
  go_loopw [1, 5] (fun x i wr => ∃ j : Nat, j ≤ n ∧ i = .int .i64 j ∧ x = .int .i64 ((k + 2 * j : Nat) : Int) ∧ Below w.heap.size w wr) (fun _ i _ => n - (intOf i).toNat)
  case atStart => exact ⟨0, Nat.zero_le _, rfl, rfl, Below.refl _ _⟩
  case round =>
    obtain ⟨j, hj, rfl, rfl, hbel⟩ := hrel
    by_cases hlt : j < n
    · obtain ⟨b, off, x, y, rfl, hb, hx, hc, hc1⟩ := h.pcAt hlt
      rw [marksP_at' k n j hlt] at hx
      obtain ⟨rfl, rfl⟩ : (k : Int) + 2 * (j : Int) = x ∧ markT (k + 2 * j + 1) = y := by
        injection hx with hx
        injection hx with h1 h2
        exact ⟨h1, h2⟩
      clear hx
      have hcr : wr.cell? ⟨b, off + j * 2, none⟩ = some (.int .i64 ((k : Int) + 2 * (j : Int))) := (hbel.cell hb).trans hc
      have hcr1 : wr.cell? ⟨b, off + j * 2 + 1, none⟩ = some (.string (markT (k + 2 * j + 1))) := (hbel.cell hb).trans hc1
      have hbr : b < wr.heap.size := Nat.lt_of_lt_of_le hb hbel.size
      have hjn' : (j : Int) < (n : Int) := by omega
      have hmt := fun W => markText (k + 2 * j + 1) W (by omega) (by omega)
      rw [show ((k + 2 * j + 1 : Nat) : Int) = (k : Int) + 2 * (j : Int) + 1 from by omega] at hmt
      have HMT := Lib.hid hmt
      clear hc hc1 hmt
      go_wp2_with fail
      go_region_with (go_at_call 41; refine (HMT.out _).mono ?_; rintro e w2 ⟨rfl, hb2⟩; have hc2 : w2.cell? ⟨b, off + j * 2, none⟩ = some (.int .i64 ((k : Int) + 2 * (j : Int))) := (hb2.cell hbr).trans hcr; have hc3 : w2.cell? ⟨b, off + j * 2 + 1, none⟩ = some (.string (markT (k + 2 * j + 1))) := (hb2.cell hbr).trans hcr1)
      all_goals
        have hb3 := below_step hbel (below_step (below_drewN wr 1) hb2)
        go_wp2
        go_roundw
        case rel => exact ⟨j + 1, by omega, by go_num, by go_num, hb3⟩
        case measure => simp [intOf]; omega
    · have hjn : j = n := by omega
      subst hjn
      go_wp2
      go_ret
      exact ⟨rfl, hbel⟩
end Go.Proofs.YtjombaiplnebmaaDoor
