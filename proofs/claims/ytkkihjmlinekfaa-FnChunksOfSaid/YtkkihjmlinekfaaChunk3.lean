/- Contracts of the functions on chunks: the prints of the chunks; the draws of texts of chunks. -/
import Derived.Test.YtkkihjmlinekfaaChunk2
import Derived.Test.YtkkihjmlinekfaaPrints
open Go.RowKit
namespace Go.Proofs.Ytkkihjmlinekfaa
/-- The prints of the chunks. -/
def chunkPr (s : ByteArray) : List Int := (chunksO s).map printP
theorem chunkPr_length (s : ByteArray) : (chunkPr s).length = (chunksO s).length := by simp [chunkPr]
theorem chunksF_mem {s : ByteArray} : ∀ {l : List Nat} {b : Nat} {x : ByteArray}, x ∈ chunksF s b l → x.size ≤ s.size
  | [], _, _, h => by cases h
  | e :: r, b, x, h => by
    rw [chunksF, List.mem_cons] at h
    rcases h with rfl | h
    · rw [ByteArray.size_extract]
      omega
    · exact chunksF_mem h
theorem chunksO_mem {s x : ByteArray} (h : x ∈ chunksO s) : x.size ≤ s.size := chunksF_mem h
set_option maxHeartbeats 1600000 in
theorem implChunkPrints (s : ByteArray) (w : World) (hs : s.size ≤ maxLen) :
    Calls Try.prog 28 #[.string s] w fun e w' => ∃ v, e = .returned v ∧ w'.ownsRow w.heap.size 3 1 v (chunkPr s).length (ints (chunkPr s)) ∧ Below w.heap.size w w' := by
  have hlen := chunksO_length s
  have hmem : Hid (∀ x ∈ chunksO s, x.size ≤ maxLen) := Lib.hid fun x hx => Nat.le_trans (chunksO_mem hx) hs
  have hPdef : Hid (chunkPr s = (chunksO s).map printP) := Lib.hid rfl
  have hPlen := Lib.hid (chunkPr_length s)
  go_enter Try.func28, Try.ntmps28
  go_wp2_with fail
  refine (implChunksOf s _ hs).mono ?_
  rintro e w0 ⟨v0, rfl, ho0, hb0⟩
  obtain ⟨A, c, rfl, _⟩ := own_slice ho0
  have hr0 := Rd.own ho0
  have hbel0 : Below w.heap.size w w0 := hb0
  have hne0 : ∀ ad, A = some ad → some ad.block ≠ none := (fun ad _ => by simp)
  generalize chunksO s = C at *
  generalize hn : C.length = n at *
  have HN := Lib.hid hn
  clear hn hs
  go_wp2_with fail
  go_loopw [3, 5, 9] (fun v _ i wr => ∃ (k : Nat), k ≤ n ∧ i = .int .i64 (k : Int) ∧ wr.ownsRow w.heap.size 3 1 v k (ints ((C.take k).map printP)) ∧ Below w.heap.size w wr ∧ Rd wr 1 A n (strs C) ∧ (∀ ad, A = some ad → some ad.block ≠ v.ownBlock)) (fun _ _ i _ => n - (intOf i).toNat)
  case atStart => exact ⟨0, Nat.zero_le _, rfl, World.ownsRow_nil _ _ _ _, hbel0, hr0, hne0⟩
  case round =>
    obtain ⟨k, hk, rfl, hown, hbel, hr, hne⟩ := hrel
    have hGs := hbel.size
    by_cases hlt : k < n
    · obtain ⟨bb, off, x, rfl, hbb, hx, hc⟩ := hr.strAt hlt
      have hxm := hmem.out x (List.mem_of_getElem? hx)
      have HT := Lib.hid (take_snoc hx)
      have HRD := Lib.hid (fun (w1 : World) (hg : wr.grownBy w1 _) => hr.grown' hg hne)
      have HNE := Lib.hid hne
      clear hx hne hne0 hr
      go_wp2_with (first | (go_at_call 45; refine (implPrintOf _ _ hxm).mono ?_; rintro e w' ⟨rfl, rfl⟩) | (at_builtin; refine wpList_app1 _ rfl (.tmp 13) (.tmp 16) _ rfl w.heap.size 3 1 8 (.int .i64 0) Try.underlying42 int_info rfl (by omega) (by omega) _ k _ rfl hown _ rfl (one_int _) rfl (by omega) hGs ?_; intro v1 w1 hown1 hg1 hv1))
      have hb1 := below_app hbel hown hg1 hGs
      have hr1 := HRD.out w1 hg1
      have hne1 : ∀ ad : Addr, (some ⟨bb, off, none⟩ : Option Addr) = some ad → some ad.block ≠ v1.ownBlock := by
        intro ad had
        injection had with had
        subst had
        rcases hv1 with e | e <;> rw [e]
        · exact HNE.out _ rfl
        · simp
          omega
      have hown2 : w1.ownsRow w.heap.size 3 1 v1 (k + 1) (ints ((C.take (k + 1)).map printP)) := by
        rw [HT.out, List.map_append, ints_append]
        exact hown1
      clear hown1
      go_wp2
      go_roundw
      case rel => exact ⟨k + 1, by omega, by go_num, hown2, hb1, hr1, hne1⟩
      case measure => simp [intOf]; omega
    · have hkn : k = n := by omega
      rw [hkn, List.take_of_length_le (by rw [HN.out]; exact Nat.le_refl _)] at hown
      go_wp2
      go_ret
      exact ⟨_, rfl, by rw [hPlen.out, hPdef.out]; exact hown, hbel⟩
set_option maxHeartbeats 1600000 in
theorem specChunkPrints (s : ByteArray) (w : World) (hs : s.size ≤ maxLen) :
    Calls Try.prog 27 #[.string s] w fun e w' => ∃ v, e = .returned v ∧ w'.ownsRow w.heap.size 3 1 v (chunkPr s).length (ints (chunkPr s)) ∧ Below w.heap.size w w' := by
  have hlen := chunksO_length s
  have hmem : Hid (∀ x ∈ chunksO s, x.size ≤ maxLen) := Lib.hid fun x hx => Nat.le_trans (chunksO_mem hx) hs
  have hPdef : Hid (chunkPr s = (chunksO s).map printP) := Lib.hid rfl
  have hPlen := Lib.hid (chunkPr_length s)
  go_enter Try.func27, Try.ntmps27
  go_wp2_with fail
  refine (specChunksOf s _ hs).mono ?_
  rintro e w0 ⟨v0, rfl, ho0, hb0⟩
  obtain ⟨A, c, rfl, _⟩ := own_slice ho0
  have hr0 := Rd.own ho0
  have hbel0 : Below w.heap.size w w0 := ((Below.refl _ w).alloc (Nat.le_refl _) _).trans (hb0.mono (by simp))
  have hown0 := own_below (own_empty w 3 1) hb0
  have hne0 : ∀ ad, A = some ad → some ad.block ≠ some w.heap.size := (fun ad h e => by have h1 := (ho0.lt ad.block (by rw [h]; rfl)).1; simp at e; simp at h1; omega)
  generalize chunksO s = C at *
  generalize hn : C.length = n at *
  have HN := Lib.hid hn
  clear hn hs
  go_wp2_with fail
  go_loopw [3, 5] (fun v i wr => ∃ (k : Nat), k ≤ n ∧ i = .int .i64 (k : Int) ∧ wr.ownsRow w.heap.size 3 1 v k (ints ((C.take k).map printP)) ∧ Below w.heap.size w wr ∧ Rd wr 1 A n (strs C) ∧ (∀ ad, A = some ad → some ad.block ≠ v.ownBlock)) (fun _ i _ => n - (intOf i).toNat)
  case atStart => exact ⟨0, Nat.zero_le _, rfl, hown0, hbel0, hr0, hne0⟩
  case round =>
    obtain ⟨k, hk, rfl, hown, hbel, hr, hne⟩ := hrel
    have hGs := hbel.size
    by_cases hlt : k < n
    · obtain ⟨bb, off, x, rfl, hbb, hx, hc⟩ := hr.strAt hlt
      have hxm := hmem.out x (List.mem_of_getElem? hx)
      have HT := Lib.hid (take_snoc hx)
      have HRD := Lib.hid (fun (w1 : World) (hg : wr.grownBy w1 _) => hr.grown' hg hne)
      have HNE := Lib.hid hne
      clear hx hne hne0 hr
      go_wp2_with (first | (go_at_call 68; refine (specPrintOf _ _ hxm).mono ?_; rintro e w' ⟨rfl, rfl⟩) | (at_builtin; refine wpList_app1 _ rfl (.tmp 15) (.tmp 21) _ rfl w.heap.size 3 1 8 (.int .i64 0) Try.underlying42 int_info rfl (by omega) (by omega) _ k _ rfl hown _ rfl (one_int _) rfl (by omega) hGs ?_; intro v1 w1 hown1 hg1 hv1))
      have hb1 := below_app hbel hown hg1 hGs
      have hr1 := HRD.out w1 hg1
      have hne1 : ∀ ad : Addr, (some ⟨bb, off, none⟩ : Option Addr) = some ad → some ad.block ≠ v1.ownBlock := by
        intro ad had
        injection had with had
        subst had
        rcases hv1 with e | e <;> rw [e]
        · exact HNE.out _ rfl
        · simp
          omega
      have hown2 : w1.ownsRow w.heap.size 3 1 v1 (k + 1) (ints ((C.take (k + 1)).map printP)) := by
        rw [HT.out, List.map_append, ints_append]
        exact hown1
      clear hown1
      go_wp2
      go_roundw
      case rel => exact ⟨k + 1, by omega, by go_num, hown2, hb1, hr1, hne1⟩
      case measure => simp [intOf]; omega
    · have hkn : k = n := by omega
      rw [hkn, List.take_of_length_le (by rw [HN.out]; exact Nat.le_refl _)] at hown
      go_wp2
      go_ret
      exact ⟨_, rfl, by rw [hPlen.out, hPdef.out]; exact hown, hbel⟩
theorem drawChunksOf (A : Option Addr) (n c : Nat) (xs : List Int) (w : World) (h : Rd w 1 A n (byts xs)) (hc : n ≤ c) (hx : ∀ x ∈ xs, (Lit.int .u8 x).wf = true) :
    Calls Try.prog 35 #[.slice A n c] w fun e w' => ∃ s : ByteArray, e = .returned (.string s) ∧ s.size ≤ 61 ∧ Below w.heap.size w w' := by
  go_enter Try.func35, Try.ntmps35
  go_wp2_with (first | (go_at_call 72; refine (l20Open A n c xs _ h hc hx).mono ?_; rintro e w1 ⟨R, rfl, hR, hr, hb⟩) | (go_at_call 78; refine (l20Long _ _ 0 _ hr (by omega)).mono ?_; rintro e w2 ⟨s, rfl, hs, hr2, hg2⟩))
  go_ret
  exact ⟨s, rfl, hs, below_rdr hb hR hg2⟩
theorem drawChunkPrints (A : Option Addr) (n c : Nat) (xs : List Int) (w : World) (h : Rd w 1 A n (byts xs)) (hc : n ≤ c) (hx : ∀ x ∈ xs, (Lit.int .u8 x).wf = true) :
    Calls Try.prog 43 #[.slice A n c] w fun e w' => ∃ s : ByteArray, e = .returned (.string s) ∧ s.size ≤ 61 ∧ Below w.heap.size w w' := by
  go_enter Try.func43, Try.ntmps43
  go_wp2_with (first | (go_at_call 72; refine (l20Open A n c xs _ h hc hx).mono ?_; rintro e w1 ⟨R, rfl, hR, hr, hb⟩) | (go_at_call 78; refine (l20Long _ _ 0 _ hr (by omega)).mono ?_; rintro e w2 ⟨s, rfl, hs, hr2, hg2⟩))
  go_ret
  exact ⟨s, rfl, hs, below_rdr hb hR hg2⟩
end Go.Proofs.Ytkkihjmlinekfaa
