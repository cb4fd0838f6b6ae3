/- Contracts of the functions on chunks: the chunks of a text, the text of chunks. -/
import Derived.Test.YtkkihjmlinekfaaChunk
import Derived.Test.YtkkihjmlinekfaaTree3
open Go.RowKit
namespace Go.Proofs.Ytkkihjmlinekfaa
theorem strs_snoc (xs : List ByteArray) (x : ByteArray) : strs (xs ++ [x]) = strs xs ++ (#[Value.string x] : Array Value).toList := by simp [strs]
set_option maxHeartbeats 1600000 in
theorem implChunksOf (s : ByteArray) (w : World) (hs : s.size ≤ maxLen) :
    Calls Try.prog 36 #[.string s] w fun e w' => ∃ v, e = .returned v ∧ w'.ownsRow w.heap.size 9 1 v (chunksO s).length (strs (chunksO s)) ∧ Below w.heap.size w w' := by
  have hm := hs
  unfold maxLen at hm
  have hlen := chunkE_length s
  have hasc := Lib.hid (chunkE_asc s)
  have hOdef : Hid (chunksO s = chunksF s 0 (chunkE s)) := Lib.hid rfl
  have hOlen := Lib.hid (show (chunksO s).length = (chunkE s).length from chunksF_length _ _ _)
  go_enter Try.func36, Try.ntmps36
  go_wp2_with fail
  refine (implChunkEnds s _ hs).mono ?_
  rintro e w0 ⟨v0, rfl, ho0, hb0⟩
  obtain ⟨A, c, rfl, _⟩ := own_slice ho0
  have hr0 := Rd.own ho0
  have hbel0 : Below w.heap.size w w0 := hb0
  have hne0 : ∀ ad, A = some ad → some ad.block ≠ none := (fun ad _ => by simp)
  generalize chunkE s = E at *
  generalize hn : E.length = n at *
  have HN := Lib.hid hn
  clear hn hs
  go_wp2_with fail
  go_loopw [3, 4, 6, 10] (fun v b _ i wr => ∃ (k b' : Nat) (acc : List ByteArray), k ≤ n ∧ i = .int .i64 (k : Int) ∧ b = .int .i64 (b' : Int) ∧ acc.length = k ∧ wr.ownsRow w.heap.size 9 1 v k (strs acc) ∧ Hid (acc ++ chunksF s b' (E.drop k) = chunksO s) ∧ Hid (Asc b' (E.drop k) s.size) ∧ b' ≤ s.size ∧ Below w.heap.size w wr ∧ Rd wr 1 A n (ints (natI E)) ∧ (∀ ad, A = some ad → some ad.block ≠ v.ownBlock)) (fun _ _ _ i _ => n - (intOf i).toNat)
  case atStart => exact ⟨0, 0, [], Nat.zero_le _, rfl, rfl, rfl, World.ownsRow_nil _ _ _ _, Lib.hid hOdef.out.symm, hasc, Nat.zero_le _, hbel0, hr0, hne0⟩
  case round =>
    obtain ⟨k, b, acc, hk, rfl, rfl, hal, hown, hR, hA, hbs, hbel, hr, hne⟩ := hrel
    have hGs := hbel.size
    by_cases hlt : k < n
    · obtain ⟨bb, off, x, rfl, hbb, hx, hc⟩ := hr.intAt hlt
      obtain ⟨en, hen, rfl⟩ := natI_at hx
      have hR' := hR.out
      have hA' := hA.out
      rw [drop_cons' hen] at hR' hA'
      obtain ⟨a1, a2, a3⟩ := hA'
      have HR := Lib.hid (show (acc ++ [s.extract b en]) ++ chunksF s en (E.drop (k + 1)) = chunksO s by rw [snoc_cons']; exact hR')
      have HA := Lib.hid a3
      have HRD := Lib.hid (fun (w1 : World) (hg : wr.grownBy w1 _) => hr.grown' hg hne)
      have HNE := Lib.hid hne
      clear hR' a3 hR hA hx hen hne hne0 hr
      have hbm : (b : Int) ≤ (en : Int) := by omega
      have hem : (en : Int) ≤ (s.size : Int) := by omega
      go_wp2_with (at_builtin; refine wpList_app1 _ rfl (.tmp 14) (.tmp 19) _ rfl w.heap.size 9 1 16 (.string ⟨#[]⟩) Try.underlying50 str_info rfl (by omega) (by omega) _ k _ rfl hown _ rfl (one_str _) rfl (by omega) hGs ?_; intro v1 w1 hown1 hg1 hv1; have hc1 : w1.cell? ⟨bb, off + k, none⟩ = some (.int .i64 (en : Int)) := (World.cell?_of_block (hg1.block bb hbb (HNE.out _ rfl))).trans hc)
      have hb1 := below_app hbel hown hg1 hGs
      have hr1 := HRD.out w1 hg1
      have hne1 : ∀ ad : Addr, (some ⟨bb, off, none⟩ : Option Addr) = some ad → some ad.block ≠ v1.ownBlock := by
        intro ad had
        injection had with had
        subst had
        rcases hv1 with e | e <;> rw [e]
        · exact HNE.out _ rfl
        · simp
          omega
      rw [← strs_snoc] at hown1
      go_wp2
      go_roundw
      case rel => exact ⟨k + 1, en, acc ++ [s.extract b en], by omega, by go_num, rfl, by rw [List.length_append]; simp; omega, hown1, HR, HA, by omega, hb1, hr1, hne1⟩
      case measure => simp [intOf]; omega
    · have hR' := hR.out
      have hnk := HN.out
      rw [List.drop_of_length_le (by omega), chunksF, List.append_nil] at hR'
      have hkn : k = n := by omega
      rw [hkn] at hown
      have HR := Lib.hid hR'
      clear hR hR' hnk hkn
      go_wp2
      go_ret
      exact ⟨_, rfl, by rw [hOlen.out, ← HR.out]; exact hown, hbel⟩
set_option maxHeartbeats 1600000 in
theorem specChunksOf (s : ByteArray) (w : World) (hs : s.size ≤ maxLen) :
    Calls Try.prog 38 #[.string s] w fun e w' => ∃ v, e = .returned v ∧ w'.ownsRow w.heap.size 9 1 v (chunksO s).length (strs (chunksO s)) ∧ Below w.heap.size w w' := by
  have hm := hs
  unfold maxLen at hm
  have hlen := chunkE_length s
  have hasc := Lib.hid (chunkE_asc s)
  have hOdef : Hid (chunksO s = chunksF s 0 (chunkE s)) := Lib.hid rfl
  have hOlen := Lib.hid (show (chunksO s).length = (chunkE s).length from chunksF_length _ _ _)
  go_enter Try.func38, Try.ntmps38
  go_wp2_with fail
  refine (specChunkEnds s _ hs).mono ?_
  rintro e w0 ⟨v0, rfl, ho0, hb0⟩
  obtain ⟨A, c, rfl, _⟩ := own_slice ho0
  have hr0 := Rd.own ho0
  have hbel0 : Below w.heap.size w w0 := ((Below.refl _ w).alloc (Nat.le_refl _) _).trans (hb0.mono (by simp))
  have hown0 := own_below (own_empty w 9 1) hb0
  have hne0 : ∀ ad, A = some ad → some ad.block ≠ some w.heap.size := (fun ad h e => by have h1 := (ho0.lt ad.block (by rw [h]; rfl)).1; simp at e; simp at h1; omega)
  generalize chunkE s = E at *
  generalize hn : E.length = n at *
  have HN := Lib.hid hn
  clear hn hs
  go_wp2_with fail
  go_loopw [3, 5, 6] (fun v b i wr => ∃ (k b' : Nat) (acc : List ByteArray), k ≤ n ∧ i = .int .i64 (k : Int) ∧ b = .int .i64 (b' : Int) ∧ acc.length = k ∧ wr.ownsRow w.heap.size 9 1 v k (strs acc) ∧ Hid (acc ++ chunksF s b' (E.drop k) = chunksO s) ∧ Hid (Asc b' (E.drop k) s.size) ∧ b' ≤ s.size ∧ Below w.heap.size w wr ∧ Rd wr 1 A n (ints (natI E)) ∧ (∀ ad, A = some ad → some ad.block ≠ v.ownBlock)) (fun _ _ i _ => n - (intOf i).toNat)
  case atStart => exact ⟨0, 0, [], Nat.zero_le _, rfl, rfl, rfl, hown0, Lib.hid hOdef.out.symm, hasc, Nat.zero_le _, hbel0, hr0, hne0⟩
  case round =>
    obtain ⟨k, b, acc, hk, rfl, rfl, hal, hown, hR, hA, hbs, hbel, hr, hne⟩ := hrel
    have hGs := hbel.size
    by_cases hlt : k < n
    · obtain ⟨bb, off, x, rfl, hbb, hx, hc⟩ := hr.intAt hlt
      obtain ⟨en, hen, rfl⟩ := natI_at hx
      have hR' := hR.out
      have hA' := hA.out
      rw [drop_cons' hen] at hR' hA'
      obtain ⟨a1, a2, a3⟩ := hA'
      have HR := Lib.hid (show (acc ++ [s.extract b en]) ++ chunksF s en (E.drop (k + 1)) = chunksO s by rw [snoc_cons']; exact hR')
      have HA := Lib.hid a3
      have HRD := Lib.hid (fun (w1 : World) (hg : wr.grownBy w1 _) => hr.grown' hg hne)
      have HNE := Lib.hid hne
      clear hR' a3 hR hA hx hen hne hne0 hr
      have hbm : (b : Int) ≤ (en : Int) := by omega
      have hem : (en : Int) ≤ (s.size : Int) := by omega
      go_wp2_with (at_builtin; refine wpList_app1 _ rfl (.tmp 16) (.tmp 24) _ rfl w.heap.size 9 1 16 (.string ⟨#[]⟩) Try.underlying50 str_info rfl (by omega) (by omega) _ k _ rfl hown _ rfl (one_str _) rfl (by omega) hGs ?_; intro v1 w1 hown1 hg1 hv1; have hc1 : w1.cell? ⟨bb, off + k, none⟩ = some (.int .i64 (en : Int)) := (World.cell?_of_block (hg1.block bb hbb (HNE.out _ rfl))).trans hc)
      have hb1 := below_app hbel hown hg1 hGs
      have hr1 := HRD.out w1 hg1
      have hne1 : ∀ ad : Addr, (some ⟨bb, off, none⟩ : Option Addr) = some ad → some ad.block ≠ v1.ownBlock := by
        intro ad had
        injection had with had
        subst had
        rcases hv1 with e | e <;> rw [e]
        · exact HNE.out _ rfl
        · simp
          omega
      rw [← strs_snoc] at hown1
      go_wp2
      go_roundw
      case rel => exact ⟨k + 1, en, acc ++ [s.extract b en], by omega, by go_num, rfl, by rw [List.length_append]; simp; omega, hown1, HR, HA, by omega, hb1, hr1, hne1⟩
      case measure => simp [intOf]; omega
    · have hR' := hR.out
      have hnk := HN.out
      rw [List.drop_of_length_le (by omega), chunksF, List.append_nil] at hR'
      have hkn : k = n := by omega
      rw [hkn] at hown
      have HR := Lib.hid hR'
      clear hR hR' hnk hkn
      go_wp2
      go_ret
      exact ⟨_, rfl, by rw [hOlen.out, ← HR.out]; exact hown, hbel⟩
set_option maxHeartbeats 800000 in
theorem implJoinChunks (A : Option Addr) (n c : Nat) (xs : List ByteArray) (w : World) (h : Rd w 1 A n (strs xs)) (hn : n ≤ 4194304) (hsz : ∀ x ∈ xs, x.size ≤ maxLen) :
    Calls Try.prog 40 #[.slice A n c] w fun e w' => e = .returned (.tuple #[.string (joinC xs).1, .bool (joinC xs).2]) ∧ w = w' := by
  have HS := Lib.hid hsz
  have HL := Lib.hid h.strLen
  clear hsz
  go_enter Try.func40, Try.ntmps40
  go_wp2
  go_loop [4, 6, 9] (fun t _ i => ∃ k : Nat, k ≤ n ∧ i = .int .i64 (k : Int) ∧ t = .string (joinB (xs.take k)) ∧ (joinB (xs.take k)).size ≤ 60) (fun _ _ i => n - (intOf i).toNat)
  case atStart => exact ⟨0, Nat.zero_le _, rfl, by simp [joinB], Nat.zero_le _⟩
  case round =>
    obtain ⟨k, hk, rfl, rfl, h60⟩ := hrel
    by_cases hlt : k < n
    · obtain ⟨b, off, x, rfl, _, hx, hc⟩ := h.strAt hlt
      have hxm := HS.out x (List.mem_of_getElem? hx)
      have hxm' := hxm
      unfold maxLen at hxm'
      have HT := Lib.hid (take_snoc hx)
      have hts : (joinB (xs.take (k + 1))).size = (joinB (xs.take k)).size + x.size := by rw [take_snoc hx, joinB_snoc, ByteArray.size_append]
      have hle : (joinB (xs.take (k + 1))).size ≤ (joinB xs).size := by rw [joinB_size, joinB_size]; exact sum_take_le _ _
      clear hx
      by_cases hbig : 60 - (joinB (xs.take k)).size < x.size
      · have HB := Lib.hid (joinC_no (text_big (show 60 < (joinB xs).size by omega)))
        have hbi : (60 : Int) - ((joinB (xs.take k)).size : Int) < (x.size : Int) := by omega
        clear hts hle hbig
        generalize joinB (xs.take k) = T at *
        go_wp2
        go_ret2
        exact ⟨by rw [HB.out]; rfl, rfl⟩
      · have hbi : (x.size : Int) ≤ (60 : Int) - ((joinB (xs.take k)).size : Int) := by omega
        have h60' : (joinB (xs.take (k + 1))).size ≤ 60 := by omega
        have hJ : Hid (joinB (xs.take (k + 1)) = joinB (xs.take k) ++ x) := Lib.hid (by rw [HT.out, joinB_snoc])
        clear hts hle hbig
        go_wp2
        go_round
        case rel => exact ⟨k + 1, by omega, by go_num, by rw [hJ.out], h60'⟩
        case measure => simp [intOf]; omega
    · have hkn : xs.take k = xs := List.take_of_length_le (by rw [HL.out]; omega)
      rw [hkn] at h60 ⊢
      clear hkn
      have hsm : (joinB xs).size ≤ maxLen := by unfold maxLen; omega
      cases ht : textV (bts (joinB xs))
      · have HT := Lib.hid ht
        have HB := Lib.hid (joinC_no ht)
        clear ht
        go_wp2_with (go_at_call 39; refine (implTextValid _ _ hsm).mono ?_; rintro e w' ⟨rfl, rfl⟩; rw [HT.out])
        go_ret2
        exact ⟨by rw [HB.out]; rfl, rfl⟩
      · have HT := Lib.hid ht
        have HB := Lib.hid (joinC_yes ht)
        clear ht
        go_wp2_with (go_at_call 39; refine (implTextValid _ _ hsm).mono ?_; rintro e w' ⟨rfl, rfl⟩; rw [HT.out])
        go_ret2
        exact ⟨by rw [HB.out]; rfl, rfl⟩
set_option maxHeartbeats 800000 in
theorem specJoinChunks (A : Option Addr) (n c : Nat) (xs : List ByteArray) (w : World) (h : Rd w 1 A n (strs xs)) (hn : n ≤ 4194304) (hsz : (xs.map ByteArray.size).sum ≤ 4194304) :
    Calls Try.prog 42 #[.slice A n c] w fun e w' => e = .returned (.tuple #[.string (joinC xs).1, .bool (joinC xs).2]) ∧ w = w' := by
  have HL := Lib.hid h.strLen
  rw [← joinB_size] at hsz
  go_enter Try.func42, Try.ntmps42
  go_wp2
  go_loop [4, 5] (fun t i => ∃ k : Nat, k ≤ n ∧ i = .int .i64 (k : Int) ∧ t = .string (joinB (xs.take k))) (fun _ i => n - (intOf i).toNat)
  case atStart => exact ⟨0, Nat.zero_le _, rfl, by simp [joinB]⟩
  case round =>
    obtain ⟨k, hk, rfl, rfl⟩ := hrel
    by_cases hlt : k < n
    · obtain ⟨b, off, x, rfl, _, hx, hc⟩ := h.strAt hlt
      have HT := Lib.hid (take_snoc hx)
      have hts : (joinB (xs.take (k + 1))).size = (joinB (xs.take k)).size + x.size := by rw [take_snoc hx, joinB_snoc, ByteArray.size_append]
      have hle : (joinB (xs.take (k + 1))).size ≤ (joinB xs).size := by rw [joinB_size, joinB_size]; exact sum_take_le _ _
      have hJ : Hid (joinB (xs.take (k + 1)) = joinB (xs.take k) ++ x) := Lib.hid (by rw [HT.out, joinB_snoc])
      have hsm : (joinB (xs.take k)).size + x.size ≤ 4194304 := by omega
      clear hx hts hle
      go_wp2
      go_round
      case rel => exact ⟨k + 1, by omega, by go_num, by rw [hJ.out]⟩
      case measure => simp [intOf]; omega
    · have hkn : xs.take k = xs := List.take_of_length_le (by rw [HL.out]; omega)
      rw [hkn]
      clear hkn
      have hsm : (joinB xs).size ≤ maxLen := by unfold maxLen; omega
      cases ht : textV (bts (joinB xs))
      · have HT := Lib.hid ht
        have HB := Lib.hid (joinC_no ht)
        clear ht
        go_wp2_with (go_at_call 67; refine (specTextValid _ _ hsm).mono ?_; rintro e w' ⟨rfl, rfl⟩; rw [HT.out])
        go_ret2
        exact ⟨by rw [HB.out]; rfl, rfl⟩
      · have HT := Lib.hid ht
        have HB := Lib.hid (joinC_yes ht)
        clear ht
        go_wp2_with (go_at_call 67; refine (specTextValid _ _ hsm).mono ?_; rintro e w' ⟨rfl, rfl⟩; rw [HT.out])
        go_ret2
        exact ⟨by rw [HB.out]; rfl, rfl⟩
end Go.Proofs.Ytkkihjmlinekfaa
