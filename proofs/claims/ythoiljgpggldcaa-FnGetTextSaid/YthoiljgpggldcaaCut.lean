/- A part of a slice, and what it reads as. -/
import Derived.Test.YthoiljgpggldcaaMem
open Go.RowKit
namespace Go.Proofs.Ythoiljgpggldcaa
theorem Rd.cut {w : World} {size b off n : Nat} {xs : List Value} (h : Rd w size (some ⟨b, off, none⟩) n xs) (i m : Nat) (him : i + m ≤ n) :
    Rd w size (some ⟨b, off + i * size, none⟩) m ((xs.drop (i * size)).take (m * size)) := by
  have hl := h.1
  have h1 : i * size + m * size ≤ n * size := by rw [← Nat.add_mul]; exact Nat.mul_le_mul_right _ him
  refine ⟨by rw [List.length_take, List.length_drop, hl]; omega, fun hm => ?_⟩
  obtain ⟨b', off', e, hb, hc⟩ := h.2 (by omega)
  injection e with e
  injection e with e1 e2
  subst e1 e2
  refine ⟨b, off + i * size, rfl, hb, fun j u hu => ?_⟩
  rw [List.getElem?_take] at hu
  split at hu
  · rw [List.getElem?_drop] at hu
    have := hc _ _ hu
    rw [← Nat.add_assoc] at this
    exact this
  · cases hu
theorem ints_drop (xs : List Int) (i : Nat) : ints (xs.drop i) = (ints xs).drop i := by simp [ints]
theorem ints_take (xs : List Int) (i : Nat) : ints (xs.take i) = (ints xs).take i := by simp [ints]
theorem strs_drop (xs : List ByteArray) (i : Nat) : strs (xs.drop i) = (strs xs).drop i := by simp [strs]
theorem strs_take (xs : List ByteArray) (i : Nat) : strs (xs.take i) = (strs xs).take i := by simp [strs]
theorem flat2_drop {α : Type} (f g : α → Value) : ∀ (l : List α) (i : Nat), (l.drop i).flatMap (fun p => [f p, g p]) = (l.flatMap fun p => [f p, g p]).drop (i * 2)
  | l, 0 => by simp
  | [], i + 1 => by simp
  | x :: l, i + 1 => by
    rw [List.drop_succ_cons, flat2_drop f g l i, List.flatMap_cons, show (i + 1) * 2 = i * 2 + 2 from by omega]
    rfl
theorem flat2_take {α : Type} (f g : α → Value) : ∀ (l : List α) (i : Nat), (l.take i).flatMap (fun p => [f p, g p]) = (l.flatMap fun p => [f p, g p]).take (i * 2)
  | l, 0 => by simp
  | [], i + 1 => by simp
  | x :: l, i + 1 => by
    rw [List.take_succ_cons, List.flatMap_cons, flat2_take f g l i, List.flatMap_cons, show (i + 1) * 2 = i * 2 + 2 from by omega]
    rfl
theorem ens_drop (es : List (ByteArray × Int)) (i : Nat) : ens (es.drop i) = (ens es).drop (i * 2) := flat2_drop _ _ es i
theorem ens_take (es : List (ByteArray × Int)) (i : Nat) : ens (es.take i) = (ens es).take (i * 2) := flat2_take _ _ es i
theorem pcs_drop (es : List (Int × ByteArray)) (i : Nat) : pcs (es.drop i) = (pcs es).drop (i * 2) := flat2_drop _ _ es i
theorem pcs_take (es : List (Int × ByteArray)) (i : Nat) : pcs (es.take i) = (pcs es).take (i * 2) := flat2_take _ _ es i
theorem Rd.intCut {w : World} {b off n : Nat} {xs : List Int} (h : Rd w 1 (some ⟨b, off, none⟩) n (ints xs)) (i m : Nat) (him : i + m ≤ n) : Rd w 1 (some ⟨b, off + i, none⟩) m (ints ((xs.drop i).take m)) := by
  have := h.cut i m him
  rw [Nat.mul_one, Nat.mul_one] at this
  rw [ints_take, ints_drop]
  exact this
theorem Rd.strCut {w : World} {b off n : Nat} {xs : List ByteArray} (h : Rd w 1 (some ⟨b, off, none⟩) n (strs xs)) (i m : Nat) (him : i + m ≤ n) : Rd w 1 (some ⟨b, off + i, none⟩) m (strs ((xs.drop i).take m)) := by
  have := h.cut i m him
  rw [Nat.mul_one, Nat.mul_one] at this
  rw [strs_take, strs_drop]
  exact this
theorem Rd.enCut {w : World} {b off n : Nat} {xs : List (ByteArray × Int)} (h : Rd w 2 (some ⟨b, off, none⟩) n (ens xs)) (i m : Nat) (him : i + m ≤ n) : Rd w 2 (some ⟨b, off + i * 2, none⟩) m (ens ((xs.drop i).take m)) := by
  have := h.cut i m him
  rw [ens_take, ens_drop]
  exact this
theorem Rd.pcCut {w : World} {b off n : Nat} {xs : List (Int × ByteArray)} (h : Rd w 2 (some ⟨b, off, none⟩) n (pcs xs)) (i m : Nat) (him : i + m ≤ n) : Rd w 2 (some ⟨b, off + i * 2, none⟩) m (pcs ((xs.drop i).take m)) := by
  have := h.cut i m him
  rw [pcs_take, pcs_drop]
  exact this
theorem one_of {α : Type} {xs : List α} {k : Nat} {x : α} (h : xs[k]? = some x) : (xs.drop k).take 1 = [x] := by
  obtain ⟨hk, rfl⟩ := List.getElem?_eq_some_iff.1 h
  rw [List.drop_eq_getElem_cons hk]
  rfl
theorem ints_set (xs : List Int) (k : Nat) (x : Int) : (ints xs).set k (.int .i64 x) = ints (xs.set k x) := by
  unfold ints
  rw [List.map_set]
theorem own_at {w : World} {base n : Nat} {e : TypeId} {v : Value} {xs : List Value} (h : w.ownsRow base e 1 v n xs) (hn : 0 < n) : ∃ g cap cur, v = .slice (some ⟨g, 0, none⟩) n cap ∧ cur = g ∧ base ≤ g := by
  rcases h.2 with ⟨_, h0⟩ | ⟨g, cap, _, rfl, hg, _⟩
  · omega
  · exact ⟨g, cap, g, rfl, rfl, hg⟩
end Go.Proofs.Ythoiljgpggldcaa
