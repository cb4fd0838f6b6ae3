/- What is drawn: chunks. -/
import Derived.Test.YtkkihjmlinekfaaChunk3
open Go.RowKit
namespace Go.Proofs.Ytkkihjmlinekfaa
theorem Rd.shortS {w : World} {n m : Nat} {A : Option Addr} {xs : List ByteArray} (h : Rd w 1 A n (strs xs)) (hm : m ≤ n) : Rd w 1 A m (strs (xs.take m)) := by
  have hl := h.strLen
  refine ⟨by rw [strs_length, List.length_take, Nat.mul_one]; omega, fun hm0 => ?_⟩
  obtain ⟨b, off, e, hb, hc⟩ := h.2 (by omega)
  refine ⟨b, off, e, hb, fun j u hu => hc j u ?_⟩
  unfold strs at hu ⊢
  rw [List.getElem?_map, List.getElem?_take] at hu
  rw [List.getElem?_map]
  split at hu
  · exact hu
  · cases hu
/-- A list of short texts, drawn. -/
def DrawnS (w : World) (e : Ending) (w' : World) : Prop := ∃ (v : Value) (k : Nat) (ys : List ByteArray), e = .returned v ∧ k ≤ 61 ∧ (∀ y ∈ ys, y.size ≤ 61) ∧ w'.ownsRow w.heap.size 9 1 v k (strs ys) ∧ Below w.heap.size w w'
set_option maxHeartbeats 800000 in
theorem drawJoinChunks (A : Option Addr) (n c : Nat) (xs : List Int) (w : World) (h : Rd w 1 A n (byts xs)) (hc : n ≤ c) (hx : ∀ x ∈ xs, (Lit.int .u8 x).wf = true) :
    Calls Try.prog 41 #[.slice A n c] w (DrawnS w) := by
  go_enter Try.func41, Try.ntmps41
  go_wp2_with (go_at_call 72; refine (l20Open A n c xs _ h hc hx).mono ?_; rintro e w1 ⟨R, rfl, hR, hr, hb⟩)
  refine (l20Long _ R 0 0 hr (by omega)).mono ?_
  rintro e w2 ⟨s, rfl, hs, hr2, hg2⟩
  have hB2 := below_rdr hb hR hg2
  have hsm : s.size ≤ maxLen := by unfold maxLen; omega
  have hlt2 := hr2.lt
  go_wp2_with fail
  refine (specChunksOf s _ hsm).mono ?_
  rintro e w3 ⟨v3, rfl, ho3, hb3⟩
  have hr3 := hr2.below hb3
  have hB3 := below_to hB2 hB2.size hb3
  have hlen := chunksO_length s
  have hmem : Hid (∀ y ∈ chunksO s, y.size ≤ 61) := Lib.hid fun y hy => Nat.le_trans (chunksO_mem hy) hs
  generalize chunksO s = C at *
  go_wp2_with fail
  refine (odd _ R _ 4 hr3 (by omega)).mono ?_
  rintro e w4 ⟨b, rfl, hr4, hg4⟩
  have ho4 := own_rdr ho3 hg4 hlt2
  have hB4 := below_rdr hB3 hR hg4
  cases b
  · go_wp2_with fail
    go_ret
    exact ⟨v3, _, C, rfl, by omega, hmem.out, own_base ho4 hB2.size, hB4⟩
  · go_wp2_with fail
    refine (l20Long _ R _ 0 hr4 (by omega)).mono ?_
    rintro e w5 ⟨t5, rfl, hs5, hr5, hg5⟩
    have ho5 := own_rdr ho4 hg5 hlt2
    have hB5 := below_rdr hB4 hR hg5
    go_wp2_with fail
    refine (l20Text _ R _ 2 hr5 (by omega)).mono ?_
    rintro e w6 ⟨t6, rfl, hs6, hr6, hg6⟩
    have ho6 := own_rdr ho5 hg6 hlt2
    have hB6 := below_rdr hB5 hR hg6
    go_wp2_with fail
    refine (pick_tab _ R _ w6.heap.size 5 _ _ (strB 61) (hr6.below ((Below.refl _ _).alloc (Nat.le_refl _) _)) (by omega) (heap_alloc_new w6 _) (Nat.ne_of_gt hr6.lt) rfl (by omega) (by simp [strB, hs5, hs6]; decide)).mono ?_
    rintro e w7 ⟨x, v, rfl, hx, hv, hcell, hr7, hg7⟩
    obtain ⟨t, rfl, ht⟩ := strB_of hv
    have hg67 := grown_trans' (World.grownBy_alloc w6 _ (some R)) hg7
    have ho7 := own_base (own_rdr ho6 hg67 hlt2) hB2.size
    have hB7 := below_rdr hB6 hR hg67
    have hG7 := hB7.size
    clear hg67 hg7 ho6 ho5 ho4 ho3 hB6 hB5 hB4 hB3 hb3
    go_wp2_with (at_builtin; refine wpList_app1 _ rfl (.tmp 12) (.tmp 22) _ rfl w.heap.size 9 1 16 (.string ⟨#[]⟩) Try.underlying50 str_info rfl (by omega) (by omega) _ C.length _ rfl ho7 _ rfl (one_str _) rfl (by omega) hG7 ?_; intro v8 w8 hown8 hg8 _)
    have hB8 := below_app hB7 ho7 hg8 hG7
    rw [← strs_snoc] at hown8
    go_wp2_with fail
    go_ret
    refine ⟨v8, C.length + 1, C ++ [t], rfl, by omega, fun y hy => ?_, hown8, hB8⟩
    rcases List.mem_append.1 hy with hy | hy
    · exact hmem.out y hy
    · rw [List.mem_singleton.1 hy]
      exact ht
end Go.Proofs.Ytkkihjmlinekfaa
