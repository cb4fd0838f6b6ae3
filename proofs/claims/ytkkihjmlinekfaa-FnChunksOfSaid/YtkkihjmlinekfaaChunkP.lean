/- Plain words on chunks. -/
import Derived.Test.YtkkihjmlinekfaaMem
open Go.RowKit
namespace Go.Proofs.Ytkkihjmlinekfaa
def cutB (many : Nat) (c : UInt8) : Bool := decide (6 ≤ many) || (decide (2 ≤ many) && decide ((c.toNat : Int) % 4 = 0))
/-- After how many bytes chunks end: of the bytes l, pos bytes behind the text's begin, many bytes of the chunk being there. -/
def endsF : List UInt8 → Nat → Nat → List Nat
  | [], _, _ => []
  | c :: r, pos, many => if (cutB (many + 1) c || r.isEmpty) = true then (pos + 1) :: endsF r (pos + 1) 0 else endsF r (pos + 1) (many + 1)
def chunkE (s : ByteArray) : List Nat := if textV (bts s) = true then endsF (bts s) 0 0 else []
theorem chunkE_yes {s : ByteArray} (h : textV (bts s) = true) : chunkE s = endsF (bts s) 0 0 := if_pos h
theorem chunkE_no {s : ByteArray} (h : textV (bts s) = false) : chunkE s = [] := if_neg (by rw [h]; simp)
def natI (es : List Nat) : List Int := es.map fun (n : Nat) => (n : Int)
theorem natI_length (es : List Nat) : (natI es).length = es.length := by simp [natI]
theorem natI_snoc (es : List Nat) (e : Nat) : natI (es ++ [e]) = natI es ++ [(e : Int)] := by simp [natI]
theorem natI_at {es : List Nat} {k : Nat} {x : Int} (h : (natI es)[k]? = some x) : ∃ e, es[k]? = some e ∧ x = (e : Int) := by
  unfold natI at h
  rw [List.getElem?_map, Option.map_eq_some_iff] at h
  obtain ⟨e, he, rfl⟩ := h
  exact ⟨e, he, rfl⟩
theorem endsF_cut {c : UInt8} {r : List UInt8} {pos many : Nat} (h : cutB (many + 1) c = true) : endsF (c :: r) pos many = (pos + 1) :: endsF r (pos + 1) 0 := by
  rw [endsF, if_pos (by rw [h]; rfl)]
theorem endsF_last {c : UInt8} {r : List UInt8} {pos many : Nat} (h : r = []) : endsF (c :: r) pos many = (pos + 1) :: endsF r (pos + 1) 0 := by
  rw [endsF, if_pos (by rw [h]; simp)]
theorem endsF_on {c : UInt8} {r : List UInt8} {pos many : Nat} (h : cutB (many + 1) c = false) (hr : r ≠ []) : endsF (c :: r) pos many = endsF r (pos + 1) (many + 1) := by
  rw [endsF, if_neg (by rw [h]; cases r with | nil => exact absurd rfl hr | cons _ _ => simp)]
theorem bts_drop {s : ByteArray} {k : Nat} (h : k < s.size) : (bts s).drop k = s[k] :: (bts s).drop (k + 1) := by
  rw [List.drop_eq_getElem_cons (by rw [bts_length]; exact h)]
  rfl
theorem bts_drop_nil {s : ByteArray} {k : Nat} (h : s.size ≤ k) : (bts s).drop k = [] := List.drop_of_length_le (by rw [bts_length]; exact h)
theorem bts_drop_ne {s : ByteArray} {k : Nat} (h : k < s.size) : (bts s).drop k ≠ [] := by
  intro e
  have := congrArg List.length e
  rw [List.length_drop, bts_length] at this
  simp at this
  omega
def cutI (m c : Int) : Bool := decide (6 ≤ m) || (decide (2 ≤ m) && decide (c % 4 = 0))
theorem cutB_int (k b : Nat) (c : UInt8) (h : b ≤ k) : cutI ((k : Int) + 1 - b) (c.toNat : Int) = cutB (k - b + 1) c := by
  unfold cutB cutI
  have e1 : ((6 : Int) ≤ (k : Int) + 1 - b) = (6 ≤ k - b + 1) := propext (by omega)
  have e2 : ((2 : Int) ≤ (k : Int) + 1 - b) = (2 ≤ k - b + 1) := propext (by omega)
  simp only [e1, e2]
theorem endsF_length : ∀ (l : List UInt8) (pos many : Nat), (endsF l pos many).length ≤ l.length
  | [], _, _ => by simp [endsF]
  | c :: r, pos, many => by
    rw [endsF]
    split
    · have := endsF_length r (pos + 1) 0
      simp only [List.length_cons]
      omega
    · have := endsF_length r (pos + 1) (many + 1)
      simp only [List.length_cons]
      omega
theorem chunkE_length (s : ByteArray) : (chunkE s).length ≤ 60 := by
  unfold chunkE
  split
  · rename_i h
    have h1 := endsF_length (bts s) 0 0
    unfold textV at h
    rw [Bool.and_eq_true] at h
    have := of_decide_eq_true h.2
    omega
  · exact Nat.zero_le _
/-- The numbers ascend from b on and end at most at m. -/
def Asc : Nat → List Nat → Nat → Prop
  | _, [], _ => True
  | b, e :: r, m => b < e ∧ e ≤ m ∧ Asc e r m
theorem Asc.weak : ∀ {l : List Nat} {b b' m : Nat}, Asc b l m → b' ≤ b → Asc b' l m
  | [], _, _, _, _, _ => trivial
  | _ :: _, _, _, _, h, hb => ⟨by have := h.1; omega, h.2.1, h.2.2⟩
theorem endsF_asc : ∀ (l : List UInt8) (pos many : Nat), Asc pos (endsF l pos many) (pos + l.length)
  | [], _, _ => trivial
  | c :: r, pos, many => by
    rw [endsF]
    split
    · refine ⟨by omega, by simp only [List.length_cons]; omega, ?_⟩
      have := endsF_asc r (pos + 1) 0
      rw [List.length_cons, show pos + (r.length + 1) = pos + 1 + r.length from by omega]
      exact this
    · have := (endsF_asc r (pos + 1) (many + 1)).weak (Nat.le_succ pos)
      rw [List.length_cons, show pos + (r.length + 1) = pos + 1 + r.length from by omega]
      exact this
theorem chunkE_asc (s : ByteArray) : Asc 0 (chunkE s) s.size := by
  unfold chunkE
  split
  · have := endsF_asc (bts s) 0 0
    rw [Nat.zero_add, bts_length] at this
    exact this
  · trivial
/-- The chunks of s from b on, by their ends. -/
def chunksF (s : ByteArray) : Nat → List Nat → List ByteArray
  | _, [] => []
  | b, e :: r => s.extract b e :: chunksF s e r
def chunksO (s : ByteArray) : List ByteArray := chunksF s 0 (chunkE s)
theorem chunksF_length (s : ByteArray) : ∀ (l : List Nat) (b : Nat), (chunksF s b l).length = l.length
  | [], _ => rfl
  | e :: r, b => by rw [chunksF, List.length_cons, List.length_cons, chunksF_length s r e]
theorem chunksO_length (s : ByteArray) : (chunksO s).length ≤ 60 := by
  unfold chunksO
  rw [chunksF_length]
  exact chunkE_length s
theorem snoc_cons' {α : Type} (acc : List α) (x : α) (r : List α) : (acc ++ [x]) ++ r = acc ++ (x :: r) := by simp
theorem drop_cons' {α : Type} {l : List α} {k : Nat} {x : α} (h : l[k]? = some x) : l.drop k = x :: l.drop (k + 1) := by
  obtain ⟨hk, rfl⟩ := List.getElem?_eq_some_iff.1 h
  exact List.drop_eq_getElem_cons hk
/-- Texts one behind the other. -/
def joinB (l : List ByteArray) : ByteArray := l.foldl (· ++ ·) ⟨#[]⟩
theorem joinB_snoc (l : List ByteArray) (x : ByteArray) : joinB (l ++ [x]) = joinB l ++ x := by
  unfold joinB
  rw [List.foldl_append]
  rfl
theorem foldl_size : ∀ (l : List ByteArray) (a : ByteArray), (l.foldl (· ++ ·) a).size = a.size + (l.map ByteArray.size).sum
  | [], a => by simp
  | x :: l, a => by
    rw [List.foldl_cons, foldl_size l, ByteArray.size_append, List.map_cons, List.sum_cons]
    omega
theorem joinB_size (l : List ByteArray) : (joinB l).size = (l.map ByteArray.size).sum := by
  unfold joinB
  rw [foldl_size]
  show 0 + _ = _
  omega
def joinC (l : List ByteArray) : ByteArray × Bool := if textV (bts (joinB l)) = true then (joinB l, true) else (⟨#[]⟩, false)
theorem joinC_yes {l : List ByteArray} (h : textV (bts (joinB l)) = true) : joinC l = (joinB l, true) := if_pos h
theorem joinC_no {l : List ByteArray} (h : textV (bts (joinB l)) = false) : joinC l = (⟨#[]⟩, false) := if_neg (by rw [h]; simp)
theorem text_big {s : ByteArray} (h : 60 < s.size) : textV (bts s) = false := by
  unfold textV
  rw [bts_length, decide_eq_false (by omega), Bool.and_false]
theorem sum_take_le (l : List ByteArray) (k : Nat) : ((l.take k).map ByteArray.size).sum ≤ (l.map ByteArray.size).sum := by
  conv => rhs; rw [← List.take_append_drop k l]
  rw [List.map_append, List.sum_append]
  omega
end Go.Proofs.Ytkkihjmlinekfaa
