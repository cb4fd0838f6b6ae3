/- What is drawn: a path. And plain words: a path with a slash behind it is none. -/
import Derived.Test.YtfjlocfaibbobaaDoorDraw4
import Derived.Test.YtfjlocfaibbobaaDoorPartsP
open Go.RowKit
namespace Go.Proofs.YtfjlocfaibbobaaDoor
set_option maxRecDepth 8000 in
set_option maxHeartbeats 1000000 in
theorem l20Path (w : World) (R p : Nat) (m : Int) (h : Rdr w R p) (hp : p ≤ 900000) :
    Calls Tryd.prog 49 #[.pointer (some ⟨R, 0, none⟩), .int .i64 m] w fun e w' => ∃ s : ByteArray, e = .returned (.string s) ∧ s.size ≤ 9 ∧ Rdr w' R (p + 2) ∧ w.grownBy w' (some R) := by
  go_enter Tryd.func49, Tryd.ntmps49
  go_wp2_with fail
  refine (odd _ R p m h (by omega)).mono ?_
  rintro e w1 ⟨b, rfl, hR, hg⟩
  cases b
  · go_wp2_with fail
    have hne1 : w1.heap.size ≠ R := Nat.ne_of_gt hR.lt
    have hne2 : w1.heap.size + 1 ≠ R := by have := hR.lt; omega
    refine (pick_tab _ R (p + 1) (w1.heap.size + 1) 13 _ _ (intB 0 7) (hR.below (below_two w1 _ _)) (by omega) (heap_two w1 _ _).2 hne2 rfl (by omega) rfl).mono ?_
    rintro e w2 ⟨j, v, rfl, hj, hv, hcell, hR2, hg2⟩
    obtain ⟨n, rfl, n0, n7⟩ := intB_of hv
    obtain ⟨k, rfl⟩ := Int.eq_ofNat_of_zero_le n0
    have hk8 : (k : Int) < 8 := by omega
    obtain ⟨v, hcv, hv'⟩ := tab_at (P := strB 9) (k := k) (grown_heap hg2 (heap_two w1 _ _).1 hne1) rfl (show k < 8 by omega)
    obtain ⟨s, rfl, hs⟩ := strB_of hv'
    clear hv hv'
    go_wp2_with fail
    go_ret
    exact ⟨s, rfl, hs, hR2, grown_trans' hg (grown_trans' (grown_below (below_two _ _ _) _) hg2)⟩
  · go_wp2_with fail
    refine (pick_tab _ R (p + 1) w1.heap.size 6 _ _ (strB 9) (hR.below ((Below.refl _ _).alloc (Nat.le_refl _) _)) (by omega) (heap_alloc_new w1 _) (Nat.ne_of_gt hR.lt) rfl (by omega) rfl).mono ?_
    rintro e w2 ⟨x, v, rfl, hx, hv, hcell, hR2, hg2⟩
    obtain ⟨s, rfl, hs⟩ := strB_of hv
    go_wp2_with fail
    go_ret
    exact ⟨s, rfl, hs, hR2, grown_trans' hg (grown_trans' (World.grownBy_alloc _ _ _) hg2)⟩
theorem partsP_join {path : ByteArray} (h : (partsP path).2 = true) : joinP (partsP path).1 = path := by
  unfold partsP at h ⊢
  split
  · rename_i e
    rw [e]
    rfl
  · rename_i e
    rw [if_neg e] at h
    split
    · rename_i g
      exact g.2
    · rename_i g
      rw [if_neg g] at h
      cases h
theorem last_app (a : List UInt8) {b : List UInt8} (h : b ≠ []) : (a ++ b).getLast? = b.getLast? := by
  cases b with
  | nil => exact absurd rfl h
  | cons x l => simp [List.getLast?_append, List.getLast?_cons]
theorem last_cons (x : UInt8) {b : List UInt8} (h : b ≠ []) : (x :: b).getLast? = b.getLast? := by
  cases b with
  | nil => exact absurd rfl h
  | cons y l => exact List.getLast?_cons_cons
theorem slB_last {xs : List ByteArray} (h : pathOk xs = true) (hne : xs ≠ []) : (slB xs).data.toList.getLast? ≠ some 47 := by
  obtain ⟨_, hw⟩ := pathOk_parts h
  rcases List.eq_nil_or_concat xs with e | ⟨P, x, e⟩
  · exact absurd e hne
  · rw [List.concat_eq_append] at e
    have hx := hw x (by rw [e]; simp)
    have h1 := wordV_size hx
    have h2 := word_no_slash hx
    rw [e, slB_data, List.map_append, List.flatten_append, List.map_cons, List.map_nil]
    intro hl
    have hxl : x.data.toList ≠ [] := fun e0 => by
      have : x.data.toList.length = 0 := by rw [e0]; rfl
      rw [Array.length_toList] at this
      have : x.size = 0 := this
      omega
    simp only [List.flatten_cons, List.flatten_nil, List.append_nil] at hl
    rw [last_app _ (by simp), last_cons _ hxl] at hl
    exact h2 47 (List.mem_of_getLast? hl) rfl
theorem partsP_slash {path : ByteArray} (h : 1 ≤ path.size) : (partsP (path ++ ⟨#[47]⟩)).2 = false := by
  cases hq : (partsP (path ++ ⟨#[47]⟩)).2
  · rfl
  · exfalso
    have hj := partsP_join hq
    have hd : (path ++ (⟨#[47]⟩ : ByteArray)).data.toList = path.data.toList ++ [47] := by simp
    have h1 : path ++ (⟨#[47]⟩ : ByteArray) ≠ slash := fun e => by
      have h3 := congrArg ByteArray.size e
      rw [ByteArray.size_append] at h3
      have : slash.size = 1 := rfl
      have : (⟨#[47]⟩ : ByteArray).size = 1 := rfl
      omega
    have h2 : path ++ (⟨#[47]⟩ : ByteArray) ≠ ⟨#[]⟩ := fun e => by
      have h3 := congrArg ByteArray.size e
      rw [ByteArray.size_append] at h3
      have : (⟨#[]⟩ : ByteArray).size = 0 := rfl
      omega
    obtain ⟨ho, hn, he⟩ := joinP_path hj h1 h2
    refine slB_last ho hn ?_
    rw [← he, hd]
    simp
theorem partsP_size {path : ByteArray} (h : (partsP path).2 = true) : 1 ≤ path.size := by
  unfold partsP at h
  split at h
  · rename_i e
    rw [e]
    exact Nat.le_refl _
  · split at h
    · rename_i g
      exact head1_size g.1
    · cases h
theorem partsP_sizes {path : ByteArray} : ∀ x ∈ (partsP path).1, x.size ≤ maxLen := by
  intro x hx
  unfold partsP at hx
  split at hx
  · cases hx
  · split at hx
    · rename_i g
      by_cases ho : pathOk (partsI (cut1 path 47)) = true
      · have := (wordV_size ((pathOk_parts ho).2 x hx)).2
        unfold maxLen
        omega
      · exfalso
        have : joinP (partsI (cut1 path 47)) = ⟨#[]⟩ := if_neg ho
        rw [this] at g
        have h1 := head1_size g.1
        rw [← g.2] at h1
        exact absurd h1 (by decide)
    · cases hx
theorem partsP_false {path : ByteArray} (h : (partsP path).2 = false) : (partsP path).1 = [] := by
  unfold partsP at h ⊢
  split
  · rfl
  · rename_i e
    rw [if_neg e] at h
    split
    · rename_i g
      rw [if_pos g] at h
      cases h
    · rfl
end Go.Proofs.YtfjlocfaibbobaaDoor
