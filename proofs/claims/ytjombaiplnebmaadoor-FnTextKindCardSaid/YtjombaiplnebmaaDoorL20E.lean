/- What is drawn: entries. -/
import Derived.Test.YtjombaiplnebmaaDoorPutE
import Derived.Test.YtjombaiplnebmaaDoorDraw2
import Derived.Test.YtjombaiplnebmaaDoorPrints
open Go.RowKit
namespace Go.Proofs.YtjombaiplnebmaaDoor
theorem putL_mem {xs : List (ByteArray × Int)} {t : ByteArray} {p : Int} : ∀ x ∈ putL xs t p, x ∈ xs ∨ x = (t, p) := by
  intro x hx
  unfold putL at hx
  rw [List.mem_append, List.mem_append, List.mem_singleton] at hx
  rcases hx with (hx | hx) | hx
  · exact .inl (List.mem_of_mem_take hx)
  · exact .inr hx
  · split at hx <;> exact .inl (List.mem_of_mem_drop hx)
theorem putL_len {xs : List (ByteArray × Int)} {t : ByteArray} {p : Int} : (putL xs t p).length ≤ xs.length + 1 := by
  have := posOf_le (enBelow t) xs
  unfold putL enPos
  split
  · rw [List.length_append, List.length_append, List.length_take, List.length_drop, List.length_singleton]; omega
  · rw [List.length_append, List.length_append, List.length_take, List.length_drop, List.length_singleton]; omega
theorem putE_mem {xs : List (ByteArray × Int)} {t : ByteArray} {p : Int} : ∀ x ∈ (putE xs t p).1, x ∈ xs ∨ x = (t, p) := by
  intro x hx
  unfold putE at hx
  split at hx
  · split at hx
    · exact putL_mem x hx
    · exact .inl hx
  · cases hx
theorem putE_len {xs : List (ByteArray × Int)} {t : ByteArray} {p : Int} : (putE xs t p).1.length ≤ xs.length + 1 := by
  unfold putE
  split
  · split
    · exact putL_len
    · exact Nat.le_succ _
  · exact Nat.zero_le _
theorem own_rdr2 {w w' : World} {R base n size : Nat} {e : TypeId} {v : Value} {xs : List Value} (h : w.ownsRow base e size v n xs) (hg : w.grownBy w' (some R)) (hR : R < base) : w'.ownsRow base e size v n xs := by
  refine h.kept hg ?_
  cases hv : v.ownBlock with
  | none => exact .inl rfl
  | some k =>
    refine .inr fun e => ?_
    injection e with e
    have := (h.lt k hv).1
    omega
theorem own_len2 {w : World} {base n : Nat} {e : TypeId} {v : Value} {xs : List (ByteArray × Int)} (h : w.ownsRow base e 2 v n (ens xs)) : xs.length = n := by
  have := h.1
  rw [ens_length] at this
  omega
def tabE : Array Value := #[.string ⟨#[]⟩, .int .i64 0, .string ⟨#[65]⟩, .int .i64 0, .string ⟨#[122]⟩, .int .i64 (-1), .string ⟨#[122]⟩, .int .i64 16777213]
theorem tabE_at {w : World} {g z : Nat} {t : TypeId} (hg : w.heap[g]? = some (.cells tabE t (0, 0))) (hz : z < 4) : ∃ (s : ByteArray) (y : Int), s.size ≤ 9 ∧ w.cell? ⟨g, z * 2, none⟩ = some (.string s) ∧ w.cell? ⟨g, z * 2 + 1, none⟩ = some (.int .i64 y) := by
  have h : z = 0 ∨ z = 1 ∨ z = 2 ∨ z = 3 := by omega
  rcases h with rfl | rfl | rfl | rfl
  · exact ⟨⟨#[]⟩, 0, by decide, cell_of_row _ _ 0 tabE _ (0, 0) hg, cell_of_row _ _ 1 tabE _ (0, 0) hg⟩
  · exact ⟨⟨#[65]⟩, 0, by decide, cell_of_row _ _ 2 tabE _ (0, 0) hg, cell_of_row _ _ 3 tabE _ (0, 0) hg⟩
  · exact ⟨⟨#[122]⟩, -1, by decide, cell_of_row _ _ 4 tabE _ (0, 0) hg, cell_of_row _ _ 5 tabE _ (0, 0) hg⟩
  · exact ⟨⟨#[122]⟩, 16777213, by decide, cell_of_row _ _ 6 tabE _ (0, 0) hg, cell_of_row _ _ 7 tabE _ (0, 0) hg⟩
theorem one_en (s : ByteArray) (y : Int) : ∀ u ∈ (#[Value.string s, Value.int .i64 y] : Array Value).toList, u.oneCell' = true := by
  intro u hu
  simp at hu
  rcases hu with rfl | rfl <;> rfl
/-- What is left when entries have been drawn. -/
def DrawnE (w : World) (R p : Nat) (e : Ending) (w' : World) : Prop := ∃ (v : Value) (n : Nat) (es : List (ByteArray × Int)), e = .returned v ∧ n ≤ 5 ∧ (∀ x ∈ es, x.1.size ≤ 9) ∧ w'.ownsRow w.heap.size 58 2 v n (ens es) ∧ Rdr w' R (p + 100) ∧ w.grownBy w' (some R)
set_option maxRecDepth 4000 in
set_option maxHeartbeats 3200000 in
theorem l20Entries (w : World) (R p : Nat) (m : Int) (h : Rdr w R p) (hp : p ≤ 800000) :
    Calls Tryd.prog 23 #[.pointer (some ⟨R, 0, none⟩), .int .i64 m] w (DrawnE w R p) := by
  have hRlt := h.lt
  go_enter Tryd.func23, Tryd.ntmps23
  go_wp2_with fail
  have hb0 : Below w.heap.size w (w.alloc (.cells #[] 58)) := (Below.refl _ _).alloc (Nat.le_refl _) _
  refine (pick _ R _ 5 (h.below hb0) (by omega)).mono ?_
  rintro e w1 ⟨x, rfl, x0, _, x1, hR1, hg1⟩
  obtain ⟨k0, rfl⟩ := Int.eq_ofNat_of_zero_le x0
  have hk0 : k0 ≤ 4 := by have := x1 (by omega); omega
  clear x0 x1
  have hown1 := own_rdr2 (own_empty w 58 2) hg1 hRlt
  have hg1' := grown_trans' (World.grownBy_alloc w (.cells #[] 58) (some R)) hg1
  clear hg1
  go_wp2_with fail
  go_loopw [5, 6] (fun v i wr => ∃ (j n : Nat) (es : List (ByteArray × Int)), i = .int .i64 (j : Int) ∧ j + n ≤ 4 ∧ j ≤ 4 ∧ Hid (∀ x ∈ es, x.1.size ≤ 9) ∧ wr.ownsRow w.heap.size 58 2 v n (ens es) ∧ v.ownBlock ≠ none ∧ Rdr wr R (p + 1 + 6 * (4 - j)) ∧ w.grownBy wr (some R)) (fun _ i _ => (intOf i).toNat)
  case atStart => exact ⟨k0, 0, [], rfl, by omega, hk0, Lib.hid (fun _ h => by cases h), hown1, (fun e => by cases e), hR1.mono (by omega), hg1'⟩
  case round =>
    obtain ⟨j, n, es, rfl, hjn, hj4, HS, hown, hbk, hR, hg⟩ := hrel
    by_cases hj : 0 < j
    · go_wp2_with fail
      refine (l20Word _ R _ 0 hR (by omega)).mono ?_
      rintro e w2 ⟨s, rfl, hs9, hR2, hg2⟩
      have hown2 := own_rdr2 hown hg2 hRlt
      have hgg2 := grown_trans' hg hg2
      go_wp2_with fail
      refine (l20Print _ R _ 0 hR2 (by omega)).mono ?_
      rintro e w3 ⟨y, rfl, _, _, hR3, hg3⟩
      have hown3 := own_rdr2 hown2 hg3 hRlt
      have hgg3 := grown_trans' hgg2 hg3
      clear hown hown2 hg2 hg3 hg hgg2
      have hsm : s.size ≤ maxLen := by unfold maxLen; omega
      have hpl := putE_len (xs := es) (t := s) (p := y)
      have hel := (own_len2 hown3)
      have HP : Hid (∀ x ∈ (putE es s y).1, x.1.size ≤ 9) := Lib.hid (fun x hx => by
        rcases putE_mem x hx with h | h
        · exact HS.out x h
        · rw [h]; exact hs9)
      go_wp2_with fail
      refine (specPutEntry _ _ _ s y es _ hown3 hbk (fun x hx => Nat.le_trans (HS.out x hx) (by unfold maxLen; omega)) hsm (by omega)).mono ?_
      rintro e w4 ⟨v4, rfl, hown4, hb4, hbk4⟩
      have hR4 := hR3.below hb4
      have hg4 := grown_trans' hgg3 (grown_below hb4 (some R))
      have hown4' := own_base hown4 hgg3.size
      clear hown4 hown3 hgg3
      generalize (putE es s y).1 = es' at *
      generalize (putE es s y).2 = ok at *
      go_wp2_with fail
      go_roundw
      case rel => exact ⟨j - 1, es'.length, es', by go_num, by omega, by omega, HP, hown4', hbk4, hR4.mono (by omega), hg4⟩
      case measure => simp [intOf]; omega
    · obtain rfl : j = 0 := by omega
      go_wp2_with fail
      refine (odd _ R _ m hR (by omega)).mono ?_
      rintro e w2 ⟨b, rfl, hR2, hg2⟩
      have hown2 := own_rdr2 hown hg2 hRlt
      have hgg2 := grown_trans' hg hg2
      cases b
      · go_wp2_with fail
        go_ret
        exact ⟨_, n, es, rfl, by omega, HS.out, hown2, hR2.mono (by omega), hgg2⟩
      · go_wp2_with fail
        have hown3 := hown2.alloc (.cells tabE 58)
        refine (pick _ R _ 4 (hR2.below ((Below.refl _ _).alloc (Nat.le_refl _) (.cells tabE 58))) (by omega)).mono ?_
        rintro e w3 ⟨x, rfl, x0, _, x1, hR3, hg3⟩
        obtain ⟨z, rfl⟩ := Int.eq_ofNat_of_zero_le x0
        have hz : z < 4 := by have := x1 (by omega); omega
        clear x0 x1
        have hown3' := own_rdr2 hown3 hg3 hRlt
        have hgg3 := grown_trans' hgg2 (grown_trans' (World.grownBy_alloc w2 (.cells tabE 58) (some R)) hg3)
        have hgb : w2.heap.size ≠ R := by have := hgg2.size; omega
        obtain ⟨s, y, hs9, hd0, hd1⟩ := tabE_at (grown_heap hg3 (heap_alloc_new w2 (.cells tabE 58)) hgb) hz
        have hz4 : (z : Int) < 4 := by omega
        have hz0 : (0 : Int) ≤ (z : Int) := Int.natCast_nonneg _
        have hG3 : w.heap.size ≤ w3.heap.size := hgg3.size
        clear hown3 hown2 hg3 hgg2 hg hown
        go_wp2_with (at_builtin; refine wpList_app1 _ rfl (.tmp 30) (.tmp 40) _ rfl w.heap.size 58 2 24 _ Tryd.underlying27 ens_info rfl (by omega) (by omega) _ n _ rfl hown3' _ rfl (one_en _ _) rfl (by omega) hG3 ?_; intro v4 w4 hown4 hg4 _)
        rw [show ens es ++ (#[Value.string s, Value.int .i64 y] : Array Value).toList = ens (es ++ [(s, y)]) from by simp [ens]] at hown4
        have hR4 := rdr_app hR3 hg4 hRlt (fun k e => (hown3'.lt k e).1)
        have hg4' := grown_app hgg3 hg4 (fun k e => (hown3'.lt k e).1)
        go_wp2_with fail
        go_ret
        exact ⟨_, n + 1, _, rfl, by omega, (fun x hx => by rcases List.mem_append.1 hx with hx | hx; exact HS.out x hx; rw [List.mem_singleton.1 hx]; exact hs9), hown4, hR4.mono (by omega), hg4'⟩
end Go.Proofs.YtjombaiplnebmaaDoor
