/- What is drawn: lists of prints, long texts, texts of files. -/
import Derived.Test.YtnbdhmjgckomcaaDraw4
import Derived.Test.YtnbdhmjgckomcaaAppend
import Derived.Test.YtnbdhmjgckomcaaInts
open Go.RowKit
namespace Go.Proofs.Ytnbdhmjgckomcaa
/-- Behind an append to a row of the call's own: what was there has turned as before. -/
theorem grown_app {w W w' : World} {row vrow : Option Nat} (h : w.grownBy W row) (hg : W.grownBy w' vrow) (hv : ∀ k, vrow = some k → w.heap.size ≤ k) : w.grownBy w' row :=
  ⟨hg.os.trans h.os, hg.tape.trans h.tape, hg.output.trans h.output, Nat.le_trans h.size hg.size, fun i hi hne => (hg.block i (Nat.lt_of_lt_of_le hi h.size) (fun e => by have := hv i e.symm; omega)).trans (h.block i hi hne)⟩
theorem rdr_app {w w' : World} {R p base : Nat} {vrow : Option Nat} (h : Rdr w R p) (hg : w.grownBy w' vrow) (hR : R < base) (hv : ∀ k, vrow = some k → base ≤ k) : Rdr w' R p :=
  h.keep ⟨hg.os, hg.tape, hg.output, hg.size, fun k hk => hg.block k (by have := h.lt; omega) (fun e => by have := hv k e.symm; omega)⟩
theorem own_rdr {w w' : World} {R base n : Nat} {e : TypeId} {v : Value} {xs : List Value} (h : w.ownsRow base e 1 v n xs) (hg : w.grownBy w' (some R)) (hR : R < base) : w'.ownsRow base e 1 v n xs := by
  refine h.kept hg ?_
  cases hv : v.ownBlock with
  | none => exact .inl rfl
  | some k =>
    refine .inr fun e => ?_
    have := (h.lt k hv).1
    injection e with e
    omega
/-- What is left when prints have been drawn. -/
def Printed (w : World) (R p : Nat) (e : Ending) (w' : World) : Prop := ∃ (v : Value) (n : Nat) (xs : List Int), e = .returned v ∧ n ≤ 9 ∧ w'.ownsRow w.heap.size 3 1 v n (ints xs) ∧ Rdr w' R (p + 100) ∧ w.grownBy w' (some R)
set_option maxHeartbeats 800000 in
theorem l20Prints (w : World) (R p : Nat) (m : Int) (h : Rdr w R p) (hp : p ≤ 800000) :
    Calls Try.prog 72 #[.pointer (some ⟨R, 0, none⟩), .int .i64 m] w (Printed w R p) := by
  have hRlt := h.lt
  go_enter Try.func72, Try.ntmps72
  go_wp2_with fail
  refine (pick _ R p 9 (h.below ((Below.refl _ _).alloc (Nat.le_refl _) _)) (by omega)).mono ?_
  rintro e w1 ⟨x, rfl, x0, _, x1, hR1, hg1⟩
  obtain ⟨k0, rfl⟩ := Int.eq_ofNat_of_zero_le x0
  have hk0 : k0 ≤ 8 := by have := x1 (by omega); omega
  clear x0 x1
  have hg1' := grown_trans' (World.grownBy_alloc w (.cells #[] 3) (some R)) hg1
  have hown1 := own_rdr (own_empty w 3 1) hg1 hRlt
  clear hg1
  go_wp2_with fail
  go_loopw [5, 6] (fun v i wr => ∃ (j n : Nat) (xs : List Int), i = .int .i64 (j : Int) ∧ j + n ≤ 8 ∧ wr.ownsRow w.heap.size 3 1 v n (ints xs) ∧ Rdr wr R (p + 1 + 4 * n) ∧ w.grownBy wr (some R)) (fun _ i _ => (intOf i).toNat)
  case atStart => exact ⟨k0, 0, [], rfl, by omega, hown1, hR1, hg1'⟩
  case round =>
    obtain ⟨j, n, xs, rfl, hjn, hown, hR, hg⟩ := hrel
    by_cases hj : 0 < j
    · go_wp2_with fail
      refine (l20Print _ R _ 0 hR (by omega)).mono ?_
      rintro e w2 ⟨y, rfl, y0, y1, hR2, hg2⟩
      have hown2 := own_rdr hown hg2 hRlt
      have hG2 : w.heap.size ≤ w2.heap.size := Nat.le_trans hg.size hg2.size
      go_wp2_with (at_builtin; refine wpList_app1 _ rfl (.tmp 14) (.tmp 17) _ rfl w.heap.size 3 1 8 (.int .i64 0) Try.underlying29 int_info rfl (by omega) (by omega) _ n _ rfl hown2 _ rfl (one_int _) rfl (by omega) hG2 ?_; intro v3 w3 hown3 hg3 _)
      have hR3 := rdr_app hR2 hg3 hRlt (fun k e => (hown2.lt k e).1)
      have hg3' := grown_app (grown_trans' hg hg2) hg3 (fun k e => (hown2.lt k e).1)
      rw [show ints xs ++ (#[Value.int .i64 y] : Array Value).toList = ints (xs ++ [y]) from by simp [ints]] at hown3
      go_wp2
      go_roundw
      case rel => exact ⟨j - 1, n + 1, _, by go_num, by omega, hown3, hR3.mono (by omega), hg3'⟩
      case measure => simp [intOf]; omega
    · obtain rfl : j = 0 := by omega
      go_wp2_with fail
      refine (odd _ R _ m hR (by omega)).mono ?_
      rintro e w2 ⟨b, rfl, hR2, hg2⟩
      have hown2 := own_rdr hown hg2 hRlt
      have hG2 : w.heap.size ≤ w2.heap.size := Nat.le_trans hg.size hg2.size
      cases b
      · go_wp2_with fail
        go_ret
        exact ⟨_, n, xs, rfl, by omega, hown2, hR2.mono (by omega), grown_trans' hg hg2⟩
      · go_wp2_with fail
        refine (l20Print _ R _ 1 hR2 (by omega)).mono ?_
        rintro e w4 ⟨y, rfl, y0, y1, hR4, hg4⟩
        have hown4 := own_rdr hown2 hg4 hRlt
        have hG4 : w.heap.size ≤ w4.heap.size := Nat.le_trans hG2 hg4.size
        go_wp2_with (at_builtin; refine wpList_app1 _ rfl (.tmp 22) (.tmp 25) _ rfl w.heap.size 3 1 8 (.int .i64 0) Try.underlying29 int_info rfl (by omega) (by omega) _ n _ rfl hown4 _ rfl (one_int _) rfl (by omega) hG4 ?_; intro v3 w3 hown3 hg3 _)
        have hR3 := rdr_app hR4 hg3 hRlt (fun k e => (hown4.lt k e).1)
        have hg3' := grown_app (grown_trans' (grown_trans' hg hg2) hg4) hg3 (fun k e => (hown4.lt k e).1)
        rw [show ints xs ++ (#[Value.int .i64 y] : Array Value).toList = ints (xs ++ [y]) from by simp [ints]] at hown3
        go_wp2_with fail
        go_ret
        exact ⟨_, n + 1, _, rfl, by omega, hown3, hR3.mono (by omega), hg3'⟩
def Drawn (w : World) (e : Ending) (w' : World) : Prop := ∃ (v : Value) (k : Nat) (ys : List Int), e = .returned v ∧ k ≤ 21 ∧ w'.ownsRow w.heap.size 3 1 v k (ints ys) ∧ Below w.heap.size w w'
set_option maxHeartbeats 800000 in
theorem drawPrintList (A : Option Addr) (n c : Nat) (xs : List Int) (w : World) (h : Rd w 1 A n (byts xs)) (hc : n ≤ c) (hx : ∀ x ∈ xs, (Lit.int .u8 x).wf = true) :
    Calls Try.prog 48 #[.slice A n c] w (Drawn w) := by
  go_enter Try.func48, Try.ntmps48
  go_wp2_with (go_at_call 59; refine (l20Open A n c xs _ h hc hx).mono ?_; rintro e w1 ⟨R, rfl, hR, hr, hb⟩)
  refine (odd _ R _ 14 hr (by omega)).mono ?_
  rintro e w2 ⟨b, rfl, hR2, hg2⟩
  have hb2 := below_rdr hb hR hg2
  cases b
  · go_wp2_with fail
    refine (l20Prints _ R _ 9 hR2 (by omega)).mono ?_
    rintro e w3 ⟨v, k, ys, rfl, hk, hown, hR3, hg3⟩
    go_wp2_with fail
    go_ret
    exact ⟨v, k, ys, rfl, by omega, own_base hown hb2.size, below_rdr hb2 hR hg3⟩
  · go_wp2_with fail
    refine (pick _ R _ 2 hR2 (by omega)).mono ?_
    rintro e w3 ⟨x, rfl, x0, _, x1, hR3, hg3⟩
    obtain ⟨k0, rfl⟩ := Int.eq_ofNat_of_zero_le x0
    have hk0 : k0 ≤ 1 := by have := x1 (by omega); omega
    clear x0 x1
    have hb3 := below_rdr hb2 hR hg3
    obtain ⟨i0, hi0, hz0, hz1, hz2⟩ := info_parts int_info
    go_wp2_with (at_make; refine wpList_make_full _ rfl _ _ 29 rfl w.heap.size 3 i0 (.int .i64 0) 1 Try.underlying29 hi0 hz0 hz1 .i64 .i64 _ _ (20 + k0) rfl rfl (by omega) (by omega) (by rw [hz2]; omega) (by unfold maxLen; omega) hb3.size ?_; intro w4 hown4 hg4)
    go_wp2_with fail
    go_ret
    refine ⟨_, 20 + k0, List.replicate (20 + k0) 0, rfl, by omega, ?_, hb3.grown hg4 hb3.size (by simp)⟩
    rw [Nat.mul_one] at hown4
    have e : (madeCells (Value.int .i64 0).cells (20 + k0)).toList = ints (List.replicate (20 + k0) 0) := by
      show (madeCells #[Value.int .i64 0] (20 + k0)).toList = _
      rw [toList_madeCells_one]
      simp [ints]
    rw [e] at hown4
    exact hown4
set_option maxHeartbeats 800000 in
theorem l20Long (w : World) (R p : Nat) (m : Int) (h : Rdr w R p) (hp : p ≤ 800000) :
    Calls Try.prog 74 #[.pointer (some ⟨R, 0, none⟩), .int .i64 m] w fun e w' => ∃ s : ByteArray, e = .returned (.string s) ∧ s.size ≤ 61 ∧ Rdr w' R (p + 100) ∧ w.grownBy w' (some R) := by
  go_enter Try.func74, Try.ntmps74
  go_wp2_with fail
  refine (pick _ R p 20 h (by omega)).mono ?_
  rintro e w1 ⟨x, rfl, x0, _, x1, hR1, hg1⟩
  obtain ⟨k0, rfl⟩ := Int.eq_ofNat_of_zero_le x0
  have hk0 : k0 ≤ 19 := by have := x1 (by omega); omega
  clear x0 x1
  go_wp2_with fail
  go_loopw [5, 6] (fun v i wr => ∃ (j n : Nat) (s : ByteArray), v = .string s ∧ i = .int .i64 (j : Int) ∧ j + n ≤ 19 ∧ s.size ≤ 2 * n ∧ Rdr wr R (p + 1 + n) ∧ w.grownBy wr (some R)) (fun _ i _ => (intOf i).toNat)
  case atStart => exact ⟨k0, 0, _, rfl, rfl, by omega, by decide, hR1, hg1⟩
  case round =>
    obtain ⟨j, n, s, rfl, rfl, hjn, hs, hR, hg⟩ := hrel
    by_cases hj : 0 < j
    · go_wp2_with fail
      refine (pick_tab _ R (p + 1 + n) wr.heap.size 6 _ _ (strB 2) (hR.below ((Below.refl _ _).alloc (Nat.le_refl _) _)) (by omega) (heap_alloc_new wr _) (Nat.ne_of_gt hR.lt) rfl (by omega) rfl).mono ?_
      rintro e w2 ⟨x, v, rfl, hx, hv, hcell, hR2, hg2⟩
      obtain ⟨t, rfl, ht⟩ := strB_of hv
      go_wp2_with fail
      go_roundw
      case rel => exact ⟨j - 1, n + 1, _, rfl, by go_num, by omega, by rw [ByteArray.size_append]; omega, hR2.mono (by omega), grown_trans' hg (grown_trans' (World.grownBy_alloc _ _ _) hg2)⟩
      case measure => simp [intOf]; omega
    · obtain rfl : j = 0 := by omega
      go_wp2_with fail
      refine (odd _ R _ m hR (by omega)).mono ?_
      rintro e w2 ⟨b, rfl, hR2, hg2⟩
      cases b
      · go_wp2_with fail
        go_ret
        exact ⟨s, rfl, by omega, hR2.mono (by omega), grown_trans' hg hg2⟩
      · go_wp2_with fail
        refine (l20Text _ R _ 1 hR2 (by omega)).mono ?_
        rintro e w3 ⟨t, rfl, ht, hR3, hg3⟩
        go_wp2_with fail
        go_ret
        exact ⟨t, rfl, ht, hR3.mono (by omega), grown_trans' hg (grown_trans' hg2 hg3)⟩
theorem drawChunkEnds (A : Option Addr) (n c : Nat) (xs : List Int) (w : World) (h : Rd w 1 A n (byts xs)) (hc : n ≤ c) (hx : ∀ x ∈ xs, (Lit.int .u8 x).wf = true) :
    Calls Try.prog 52 #[.slice A n c] w fun e w' => ∃ s : ByteArray, e = .returned (.string s) ∧ s.size ≤ 61 ∧ Below w.heap.size w w' := by
  go_enter Try.func52, Try.ntmps52
  go_wp2_with (first | (go_at_call 59; refine (l20Open A n c xs _ h hc hx).mono ?_; rintro e w1 ⟨R, rfl, hR, hr, hb⟩) | (go_at_call 74; refine (l20Long _ _ 0 _ hr (by omega)).mono ?_; rintro e w2 ⟨s, rfl, hs, hr2, hg2⟩))
  go_ret
  exact ⟨s, rfl, hs, below_rdr hb hR hg2⟩
end Go.Proofs.Ytnbdhmjgckomcaa
