/- Plain words on chunks: they are the text; what stands behind a text leaves its chunks but the last one. -/
import Derived.Test.YtkkihjmlinekfaaChunk3
open Go.RowKit
namespace Go.Proofs.Ytkkihjmlinekfaa
/-- The ends e follow b: each chunk has at most six bytes, all but the last one at least two, the last one ends at m. -/
def GapsL : Nat → List Nat → Nat → Prop
  | b, [], m => b = m
  | b, e :: r, m => b < e ∧ e ≤ b + 6 ∧ (r ≠ [] → b + 2 ≤ e) ∧ GapsL e r m
theorem endsF_gapsL : ∀ (l : List UInt8) (pos many : Nat), many ≤ 5 → many ≤ pos → (l = [] → many = 0) → GapsL (pos - many) (endsF l pos many) (pos + l.length)
  | [], pos, many, _, _, h => by
    rw [h rfl]
    rfl
  | c :: r, pos, many, h5, hp, _ => by
    rw [endsF]
    split
    · rename_i hc
      refine ⟨by omega, by omega, fun hr => ?_, ?_⟩
      · have hc' : cutB (many + 1) c = true := by
          rw [Bool.or_eq_true] at hc
          rcases hc with hc | hc
          · exact hc
          · have : r = [] := by simpa using hc
            subst this
            exact absurd rfl hr
        unfold cutB at hc'
        rw [Bool.or_eq_true, Bool.and_eq_true, decide_eq_true_iff, decide_eq_true_iff] at hc'
        omega
      · have := endsF_gapsL r (pos + 1) 0 (by omega) (by omega) (fun _ => rfl)
        rw [List.length_cons, show pos + (r.length + 1) = pos + 1 + r.length from by omega]
        exact this
    · rename_i hc
      rw [Bool.or_eq_true, not_or] at hc
      have hr : r ≠ [] := fun e => hc.2 (by rw [e]; rfl)
      have hm : many + 1 ≤ 5 := by
        have h1 := hc.1
        unfold cutB at h1
        rw [Bool.or_eq_true, decide_eq_true_iff] at h1
        omega
      have := endsF_gapsL r (pos + 1) (many + 1) hm (by omega) (fun e => absurd e hr)
      rw [List.length_cons, show pos + (r.length + 1) = pos + 1 + r.length from by omega, show pos - many = pos + 1 - (many + 1) from by omega]
      exact this
theorem chunkE_gapsL {s : ByteArray} (h : 0 < (chunkE s).length) : GapsL 0 (chunkE s) s.size := by
  cases ht : textV (bts s)
  · rw [chunkE_no ht] at h
    simp at h
  · rw [chunkE_yes ht]
    have := endsF_gapsL (bts s) 0 0 (by omega) (by omega) (fun _ => rfl)
    rw [bts_length, Nat.zero_add] at this
    exact this
theorem gapsL_le : ∀ {l : List Nat} {b m : Nat}, GapsL b l m → b ≤ m
  | [], _, _, h => Nat.le_of_eq h
  | _ :: _, _, _, h => by
    have := gapsL_le h.2.2.2
    have := h.1
    omega
theorem ba_assoc (a b c : ByteArray) : a ++ b ++ c = a ++ (b ++ c) := ByteArray.append_assoc
theorem foldl_from (l : List ByteArray) : ∀ a : ByteArray, l.foldl (· ++ ·) a = a ++ joinB l := by
  unfold joinB
  induction l with
  | nil => intro a; exact (ByteArray.append_empty).symm
  | cons x l ih =>
    intro a
    rw [List.foldl_cons, List.foldl_cons, ih, ih ((⟨#[]⟩ : ByteArray) ++ x)]
    rw [show (⟨#[]⟩ : ByteArray) ++ x = x from ByteArray.empty_append, ba_assoc]
theorem joinB_cons (x : ByteArray) (l : List ByteArray) : joinB (x :: l) = x ++ joinB l := by
  unfold joinB
  rw [List.foldl_cons, foldl_from]
  rw [show (⟨#[]⟩ : ByteArray) ++ x = x from ByteArray.empty_append]
  rfl
theorem gaps_join (s : ByteArray) : ∀ {l : List Nat} {b m : Nat}, GapsL b l m → m ≤ s.size → joinB (chunksF s b l) = s.extract b m
  | [], b, m, h, _ => by
    have hbm : b = m := h
    subst hbm
    rw [chunksF]
    show (⟨#[]⟩ : ByteArray) = _
    refine (ByteArray.extract_eq_empty_iff.2 ?_).symm
    omega
  | e :: r, b, m, h, hm => by
    have h1 := h.1
    have h2 := gapsL_le h.2.2.2
    rw [chunksF, joinB_cons, gaps_join s h.2.2.2 hm, ByteArray.extract_append_extract, Nat.min_eq_left (by omega), Nat.max_eq_right h2]
theorem chunksO_join {s : ByteArray} (h : textV (bts s) = true) : joinB (chunksO s) = s := by
  unfold chunksO
  rw [chunkE_yes h]
  have h1 := endsF_gapsL (bts s) 0 0 (by omega) (by omega) (fun _ => rfl)
  rw [Nat.zero_add, bts_length] at h1
  rw [gaps_join s h1 (Nat.le_refl _)]
  exact ByteArray.extract_zero_size
theorem joinC_chunks {s : ByteArray} (h : textV (bts s) = true) : joinC (chunksO s) = (s, true) := by
  rw [joinC_yes (by rw [chunksO_join h]; exact h), chunksO_join h]
theorem chunksO_no {s : ByteArray} (h : textV (bts s) = false) : chunksO s = [] := by
  unfold chunksO
  rw [chunkE_no h]
  rfl
theorem endsF_some : ∀ {l : List UInt8} {p m : Nat}, l ≠ [] → endsF l p m ≠ []
  | [], _, _, h => absurd rfl h
  | [c], p, m, _ => by
    rw [endsF_last rfl]
    exact List.cons_ne_nil _ _
  | c :: c2 :: r, p, m, _ => by
    cases hc : cutB (m + 1) c
    · rw [endsF_on hc (List.cons_ne_nil _ _)]
      exact endsF_some (List.cons_ne_nil _ _)
    · rw [endsF_cut hc]
      exact List.cons_ne_nil _ _
theorem endsF_more (x : List UInt8) (hx : x ≠ []) : ∀ (l : List UInt8) (p m : Nat), l ≠ [] → ∃ (E : List Nat) (e : Nat) (rest : List Nat), endsF l p m = E ++ [e] ∧ endsF (l ++ x) p m = E ++ rest ∧ rest ≠ []
  | [], _, _, h => absurd rfl h
  | [c], p, m, _ => ⟨[], p + 1, endsF ([c] ++ x) p m, by rw [endsF_last rfl]; rfl, rfl, endsF_some (by simp)⟩
  | c :: c2 :: r, p, m, _ => by
    cases hc : cutB (m + 1) c
    · obtain ⟨E, e, rest, h1, h2, h3⟩ := endsF_more x hx (c2 :: r) (p + 1) (m + 1) (List.cons_ne_nil _ _)
      refine ⟨E, e, rest, ?_, ?_, h3⟩
      · rw [endsF_on hc (List.cons_ne_nil _ _), h1]
      · rw [List.cons_append, endsF_on hc (by simp), h2]
    · obtain ⟨E, e, rest, h1, h2, h3⟩ := endsF_more x hx (c2 :: r) (p + 1) 0 (List.cons_ne_nil _ _)
      refine ⟨(p + 1) :: E, e, rest, ?_, ?_, h3⟩
      · rw [endsF_cut hc, h1]; rfl
      · rw [List.cons_append, endsF_cut hc, h2]; rfl
theorem chunksF_app (s : ByteArray) (F : List Nat) : ∀ (E : List Nat) (b : Nat), (chunksF s b (E ++ F)).take E.length = chunksF s b E
  | [], _ => by simp [chunksF]
  | e :: r, b => by
    rw [List.cons_append, chunksF, chunksF, List.length_cons, List.take_succ_cons, chunksF_app s F r e]
theorem chunksF_ext (s x : ByteArray) : ∀ (E : List Nat) (b : Nat), Asc b E s.size → chunksF (s ++ x) b E = chunksF s b E
  | [], _, _ => rfl
  | e :: r, b, h => by
    rw [chunksF, chunksF, chunksF_ext s x r e h.2.2]
    congr 1
    rw [ByteArray.extract_append]
    have h2 := h.2.1
    rw [show x.extract (b - s.size) (e - s.size) = ⟨#[]⟩ from ByteArray.extract_eq_empty_iff.2 (by omega)]
    exact ByteArray.append_empty
theorem asc_app : ∀ {E F : List Nat} {b m : Nat}, Asc b (E ++ F) m → Asc b E m
  | [], _, _, _, _ => trivial
  | _ :: _, _, _, _, h => ⟨h.1, h.2.1, asc_app h.2.2⟩
/-- With more behind the text all chunks but the last one stay. -/
theorem chunksO_more {s x : ByteArray} (hs : textV (bts s) = true) (hsx : textV (bts (s ++ x)) = true) (h0 : 0 < s.size) (hx : 0 < x.size) :
    (chunksO s).length ≤ (chunksO (s ++ x)).length ∧ (chunksO (s ++ x)).take ((chunksO s).length - 1) = (chunksO s).take ((chunksO s).length - 1) := by
  have hb : bts (s ++ x) = bts s ++ bts x := by
    unfold bts
    rw [ByteArray.data_append, Array.toList_append]
  have hn1 : bts s ≠ [] := fun e => by have := bts_length s; rw [e] at this; simp at this; omega
  have hn2 : bts x ≠ [] := fun e => by have := bts_length x; rw [e] at this; simp at this; omega
  obtain ⟨E, e, rest, h1, h2, h3⟩ := endsF_more (bts x) hn2 (bts s) 0 0 hn1
  have ha := endsF_asc (bts s) 0 0
  rw [h1, Nat.zero_add, bts_length] at ha
  have hl : 0 < rest.length := by cases rest with | nil => exact absurd rfl h3 | cons _ _ => simp
  unfold chunksO
  rw [chunkE_yes hs, chunkE_yes hsx, hb, h1, h2, chunksF_length, chunksF_length, List.length_append, List.length_append, List.length_singleton, Nat.add_sub_cancel]
  refine ⟨by omega, ?_⟩
  rw [chunksF_app, chunksF_app, chunksF_ext s x E 0 (asc_app ha)]
end Go.Proofs.Ytkkihjmlinekfaa
