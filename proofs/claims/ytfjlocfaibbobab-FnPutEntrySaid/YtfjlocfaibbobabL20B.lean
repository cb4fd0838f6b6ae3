/- What is drawn: entries, in a row that has a block. -/
import Derived.Test.YtfjlocfaibbobabL20E
open Go.RowKit
namespace Go.Proofs.Ytfjlocfaibbobab
theorem own_blk {w : World} {base n : Nat} {e : TypeId} {v : Value} {xs : List Value} (h : w.ownsRow base e 2 v n xs) (hn : 0 < n) : v.ownBlock ≠ none := by
  obtain ⟨_, _, _, h2⟩ := own_block h hn
  exact h2
/-- What is left when entries have been drawn. -/
def DrawnEB (w : World) (R p : Nat) (e : Ending) (w' : World) : Prop := ∃ (v : Value) (n : Nat) (es : List (ByteArray × Int)), e = .returned v ∧ n ≤ 5 ∧ (∀ x ∈ es, x.1.size ≤ 9) ∧ w'.ownsRow w.heap.size 31 2 v n (ens es) ∧ Rdr w' R (p + 100) ∧ w.grownBy w' (some R) ∧ v.ownBlock ≠ none
set_option maxRecDepth 4000 in
set_option maxHeartbeats 3200000 in
theorem l20EntriesB (w : World) (R p : Nat) (m : Int) (h : Rdr w R p) (hp : p ≤ 800000) :
    Calls Try.prog 46 #[.pointer (some ⟨R, 0, none⟩), .int .i64 m] w (DrawnEB w R p) := by
  have hRlt := h.lt
  go_enter Try.func46, Try.ntmps46
  go_wp2_with fail
  have hb0 : Below w.heap.size w (w.alloc (.cells #[] 31)) := (Below.refl _ _).alloc (Nat.le_refl _) _
  refine (pick _ R _ 5 (h.below hb0) (by omega)).mono ?_
  rintro e w1 ⟨x, rfl, x0, _, x1, hR1, hg1⟩
  obtain ⟨k0, rfl⟩ := Int.eq_ofNat_of_zero_le x0
  have hk0 : k0 ≤ 4 := by have := x1 (by omega); omega
  clear x0 x1
  have hown1 := own_rdr2 (own_empty w 31 2) hg1 hRlt
  have hg1' := grown_trans' (World.grownBy_alloc w (.cells #[] 31) (some R)) hg1
  clear hg1
  go_wp2_with fail
  go_loopw [5, 6] (fun v i wr => ∃ (j n : Nat) (es : List (ByteArray × Int)), i = .int .i64 (j : Int) ∧ j + n ≤ 4 ∧ j ≤ 4 ∧ Hid (∀ x ∈ es, x.1.size ≤ 9) ∧ wr.ownsRow w.heap.size 31 2 v n (ens es) ∧ v.ownBlock ≠ none ∧ Rdr wr R (p + 1 + 6 * (4 - j)) ∧ w.grownBy wr (some R)) (fun _ i _ => (intOf i).toNat)
  case atStart => exact ⟨k0, 0, [], rfl, by omega, hk0, Lib.hid (fun _ h => by cases h), hown1, (fun e => by cases e), hR1.mono (by omega), hg1'⟩
  case round =>
    obtain ⟨j, n, es, rfl, hjn, hj4, HS, hown, hbk, hR, hg⟩ := hrel
    by_cases hj : 0 < j
    · go_wp2_with fail
      refine (l20Word _ R _ 0 hR (by omega)).mono ?_
      rintro e w2 ⟨s, rfl, hs9, hR2, hg2⟩
      have hown2 := own_rdr2 hown hg2 hRlt
      have hgg2 := grown_trans' hg hg2
      go_wp2_with fail
      refine (l20Print _ R _ 0 hR2 (by omega)).mono ?_
      rintro e w3 ⟨y, rfl, _, _, hR3, hg3⟩
      have hown3 := own_rdr2 hown2 hg3 hRlt
      have hgg3 := grown_trans' hgg2 hg3
      clear hown hown2 hg2 hg3 hg hgg2
      have hsm : s.size ≤ maxLen := by unfold maxLen; omega
      have hpl := putE_len (xs := es) (t := s) (p := y)
      have hel := (own_len2 hown3)
      have HP : Hid (∀ x ∈ (putE es s y).1, x.1.size ≤ 9) := Lib.hid (fun x hx => by
        rcases putE_mem x hx with h | h
        · exact HS.out x h
        · rw [h]; exact hs9)
      go_wp2_with fail
      refine (specPutEntry _ _ _ s y es _ hown3 hbk (fun x hx => Nat.le_trans (HS.out x hx) (by unfold maxLen; omega)) hsm (by omega)).mono ?_
      rintro e w4 ⟨v4, rfl, hown4, hb4, hbk4⟩
      have hR4 := hR3.below hb4
      have hg4 := grown_trans' hgg3 (grown_below hb4 (some R))
      have hown4' := own_base hown4 hgg3.size
      clear hown4 hown3 hgg3
      generalize (putE es s y).1 = es' at *
      generalize (putE es s y).2 = ok at *
      go_wp2_with fail
      go_roundw
      case rel => exact ⟨j - 1, es'.length, es', by go_num, by omega, by omega, HP, hown4', hbk4, hR4.mono (by omega), hg4⟩
      case measure => simp [intOf]; omega
    · obtain rfl : j = 0 := by omega
      go_wp2_with fail
      refine (odd _ R _ m hR (by omega)).mono ?_
      rintro e w2 ⟨b, rfl, hR2, hg2⟩
      have hown2 := own_rdr2 hown hg2 hRlt
      have hgg2 := grown_trans' hg hg2
      cases b
      · go_wp2_with fail
        go_ret
        exact ⟨_, n, es, rfl, by omega, HS.out, hown2, hR2.mono (by omega), hgg2, hbk⟩
      · go_wp2_with fail
        have hown3 := hown2.alloc (.cells tabE 31)
        refine (pick _ R _ 4 (hR2.below ((Below.refl _ _).alloc (Nat.le_refl _) (.cells tabE 31))) (by omega)).mono ?_
        rintro e w3 ⟨x, rfl, x0, _, x1, hR3, hg3⟩
        obtain ⟨z, rfl⟩ := Int.eq_ofNat_of_zero_le x0
        have hz : z < 4 := by have := x1 (by omega); omega
        clear x0 x1
        have hown3' := own_rdr2 hown3 hg3 hRlt
        have hgg3 := grown_trans' hgg2 (grown_trans' (World.grownBy_alloc w2 (.cells tabE 31) (some R)) hg3)
        have hgb : w2.heap.size ≠ R := by have := hgg2.size; omega
        obtain ⟨s, y, hs9, hd0, hd1⟩ := tabE_at (grown_heap hg3 (heap_alloc_new w2 (.cells tabE 31)) hgb) hz
        have hz4 : (z : Int) < 4 := by omega
        have hz0 : (0 : Int) ≤ (z : Int) := Int.natCast_nonneg _
        have hG3 : w.heap.size ≤ w3.heap.size := hgg3.size
        clear hown3 hown2 hg3 hgg2 hg hown
        go_wp2_with (at_builtin; refine wpList_app1 _ rfl (.tmp 30) (.tmp 40) _ rfl w.heap.size 31 2 24 _ Try.underlying27 ens_info rfl (by omega) (by omega) _ n _ rfl hown3' _ rfl (one_en _ _) rfl (by omega) hG3 ?_; intro v4 w4 hown4 hg4 _)
        rw [show ens es ++ (#[Value.string s, Value.int .i64 y] : Array Value).toList = ens (es ++ [(s, y)]) from by simp [ens]] at hown4
        have hR4 := rdr_app hR3 hg4 hRlt (fun k e => (hown3'.lt k e).1)
        have hg4' := grown_app hgg3 hg4 (fun k e => (hown3'.lt k e).1)
        go_wp2_with fail
        go_ret
        exact ⟨_, n + 1, _, rfl, by omega, (fun x hx => by rcases List.mem_append.1 hx with hx | hx; exact HS.out x hx; rw [List.mem_singleton.1 hx]; exact hs9), hown4, hR4.mono (by omega), hg4', own_blk hown4 (by omega)⟩
end Go.Proofs.Ytfjlocfaibbobab
