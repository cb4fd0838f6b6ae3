/- The texts Ints Prints L20E DrawE DropP as one. -/
import Derived.Test.YthoiljgpggldcaaWords
import Derived.Test.YthoiljgpggldcaaM7
import Derived.Deep.RegionWith
import Derived.Test.YthoiljgpggldcaaM3
import Derived.Test.YthoiljgpggldcaaDraw2
import Derived.Test.YthoiljgpggldcaaM1
import Derived.Test.YthoiljgpggldcaaM6
/- Contracts of the functions on lists of numbers. -/
open Go.RowKit
namespace Go.Proofs.Ythoiljgpggldcaa

theorem int_info : (Try.prog.info? 3).map (fun i => (i.zero, i.size, i.bytes)) = some (some (.int .i64 0), 1, 8) := by kernel_rfl



end Go.Proofs.Ythoiljgpggldcaa
/- What is drawn: lists of prints, long texts, texts of files. -/
open Go.RowKit
namespace Go.Proofs.Ythoiljgpggldcaa
/-- Behind an append to a row of the call's own: what was there has turned as before. -/
theorem grown_app {w W w' : World} {row vrow : Option Nat} (h : w.grownBy W row) (hg : W.grownBy w' vrow) (hv : ∀ k, vrow = some k → w.heap.size ≤ k) : w.grownBy w' row :=
  ⟨hg.os.trans h.os, hg.tape.trans h.tape, hg.output.trans h.output, Nat.le_trans h.size hg.size, fun i hi hne => (hg.block i (Nat.lt_of_lt_of_le hi h.size) (fun e => by have := hv i e.symm; omega)).trans (h.block i hi hne)⟩
theorem rdr_app {w w' : World} {R p base : Nat} {vrow : Option Nat} (h : Rdr w R p) (hg : w.grownBy w' vrow) (hR : R < base) (hv : ∀ k, vrow = some k → base ≤ k) : Rdr w' R p :=
  h.keep ⟨hg.os, hg.tape, hg.output, hg.size, fun k hk => hg.block k (by have := h.lt; omega) (fun e => by have := hv k e.symm; omega)⟩
theorem own_rdr {w w' : World} {R base n : Nat} {e : TypeId} {v : Value} {xs : List Value} (h : w.ownsRow base e 1 v n xs) (hg : w.grownBy w' (some R)) (hR : R < base) : w'.ownsRow base e 1 v n xs := by
  refine h.kept hg ?_
  cases hv : v.ownBlock with
  | none => exact .inl rfl
  | some k =>
    refine .inr fun e => ?_
    have := (h.lt k hv).1
    injection e with e
    omega
end Go.Proofs.Ythoiljgpggldcaa
/- What is drawn: entries. -/
open Go.RowKit
namespace Go.Proofs.Ythoiljgpggldcaa
theorem putL_mem {xs : List (ByteArray × Int)} {t : ByteArray} {p : Int} : ∀ x ∈ putL xs t p, x ∈ xs ∨ x = (t, p) := by
  intro x hx
  unfold putL at hx
  rw [List.mem_append, List.mem_append, List.mem_singleton] at hx
  rcases hx with (hx | hx) | hx
  · exact .inl (List.mem_of_mem_take hx)
  · exact .inr hx
  · split at hx <;> exact .inl (List.mem_of_mem_drop hx)
theorem putL_len {xs : List (ByteArray × Int)} {t : ByteArray} {p : Int} : (putL xs t p).length ≤ xs.length + 1 := by
  have := posOf_le (enBelow t) xs
  unfold putL enPos
  split
  · rw [List.length_append, List.length_append, List.length_take, List.length_drop, List.length_singleton]; omega
  · rw [List.length_append, List.length_append, List.length_take, List.length_drop, List.length_singleton]; omega
theorem putE_mem {xs : List (ByteArray × Int)} {t : ByteArray} {p : Int} : ∀ x ∈ (putE xs t p).1, x ∈ xs ∨ x = (t, p) := by
  intro x hx
  unfold putE at hx
  split at hx
  · split at hx
    · exact putL_mem x hx
    · exact .inl hx
  · cases hx
theorem putE_len {xs : List (ByteArray × Int)} {t : ByteArray} {p : Int} : (putE xs t p).1.length ≤ xs.length + 1 := by
  unfold putE
  split
  · split
    · exact putL_len
    · exact Nat.le_succ _
  · exact Nat.zero_le _
theorem own_rdr2 {w w' : World} {R base n size : Nat} {e : TypeId} {v : Value} {xs : List Value} (h : w.ownsRow base e size v n xs) (hg : w.grownBy w' (some R)) (hR : R < base) : w'.ownsRow base e size v n xs := by
  refine h.kept hg ?_
  cases hv : v.ownBlock with
  | none => exact .inl rfl
  | some k =>
    refine .inr fun e => ?_
    injection e with e
    have := (h.lt k hv).1
    omega
theorem own_len2 {w : World} {base n : Nat} {e : TypeId} {v : Value} {xs : List (ByteArray × Int)} (h : w.ownsRow base e 2 v n (ens xs)) : xs.length = n := by
  have := h.1
  rw [ens_length] at this
  omega
def tabE : Array Value := #[.string ⟨#[]⟩, .int .i64 0, .string ⟨#[65]⟩, .int .i64 0, .string ⟨#[122]⟩, .int .i64 (-1), .string ⟨#[122]⟩, .int .i64 16777213]
theorem tabE_at {w : World} {g z : Nat} {t : TypeId} (hg : w.heap[g]? = some (.cells tabE t (0, 0))) (hz : z < 4) : ∃ (s : ByteArray) (y : Int), s.size ≤ 9 ∧ w.cell? ⟨g, z * 2, none⟩ = some (.string s) ∧ w.cell? ⟨g, z * 2 + 1, none⟩ = some (.int .i64 y) := by
  have h : z = 0 ∨ z = 1 ∨ z = 2 ∨ z = 3 := by omega
  rcases h with rfl | rfl | rfl | rfl
  · exact ⟨⟨#[]⟩, 0, by decide, cell_of_row _ _ 0 tabE _ (0, 0) hg, cell_of_row _ _ 1 tabE _ (0, 0) hg⟩
  · exact ⟨⟨#[65]⟩, 0, by decide, cell_of_row _ _ 2 tabE _ (0, 0) hg, cell_of_row _ _ 3 tabE _ (0, 0) hg⟩
  · exact ⟨⟨#[122]⟩, -1, by decide, cell_of_row _ _ 4 tabE _ (0, 0) hg, cell_of_row _ _ 5 tabE _ (0, 0) hg⟩
  · exact ⟨⟨#[122]⟩, 16777213, by decide, cell_of_row _ _ 6 tabE _ (0, 0) hg, cell_of_row _ _ 7 tabE _ (0, 0) hg⟩
theorem one_en (s : ByteArray) (y : Int) : ∀ u ∈ (#[Value.string s, Value.int .i64 y] : Array Value).toList, u.oneCell' = true := by
  intro u hu
  simp at hu
  rcases hu with rfl | rfl <;> rfl
end Go.Proofs.Ythoiljgpggldcaa
/- What is drawn for the laws on entries; and plain words: the first one left out, and twice. -/
open Go.RowKit
namespace Go.Proofs.Ythoiljgpggldcaa
def DrawnEs (w : World) (e : Ending) (w' : World) : Prop := ∃ (v : Value) (n : Nat) (es : List (ByteArray × Int)), e = .returned v ∧ n ≤ 5 ∧ (∀ x ∈ es, x.1.size ≤ 9) ∧ w'.ownsRow w.heap.size 63 2 v n (ens es) ∧ Below w.heap.size w w'
section
variable {α : Type} {ok : α → Bool} {lt : α → α → Bool} {m : Nat} {x : α} {r : List α}
theorem good_tail (h : goodAll ok lt m (x :: r) = true) : goodAll ok lt m r = true := by
  have hl := goodAll_len h
  rw [List.length_cons] at hl
  rw [goodAll_ok (fun j hj => ?_)]
  · exact decide_eq_true (by omega)
  · have h1 := goodAll_at h (show j + 1 < (x :: r).length by rw [List.length_cons]; omega)
    have hy : (x :: r)[j + 1]? = some r[j] := by rw [List.getElem?_cons_succ]; exact List.getElem?_eq_getElem hj
    have hok := goodAt_ok h1 hy
    cases j with
    | zero => exact goodAt_zero (List.getElem?_eq_getElem hj) hok
    | succ j =>
      rw [goodAt_succ (y := r[j]) (List.getElem?_eq_getElem hj) (List.getElem?_eq_getElem (by omega)) hok]
      rw [goodAt_succ (y := r[j]) hy (by rw [List.getElem?_cons_succ]; exact List.getElem?_eq_getElem (by omega)) hok] at h1
      exact h1
theorem good_twice (hir : lt x x = false) : goodAll ok lt m (x :: x :: r) = false := by
  refine goodAll_bad (k := 1) (by rw [List.length_cons, List.length_cons]; omega) ?_
  cases ho : ok x
  · exact goodAt_bad (x := x) rfl ho
  · rw [goodAt_succ (x := x) (y := x) rfl rfl ho]
    exact hir
end
theorem ltB_self (a : ByteArray) : ltB a a = false := by
  have := bytesLess_total a.toList a.toList
  unfold ltB
  rw [beq_self_eq_true, Bool.or_true] at this
  simpa using this.symm
theorem own_at2 {w : World} {base n : Nat} {e : TypeId} {v : Value} {xs : List Value} (h : w.ownsRow base e 2 v n xs) (hn : 0 < n) : ∃ g cap, v = .slice (some ⟨g, 0, none⟩) n cap ∧ base ≤ g ∧ n ≤ cap := by
  rcases h.2 with ⟨_, h0⟩ | ⟨g, cap, _, rfl, hg, _, hc, _⟩
  · omega
  · exact ⟨g, cap, rfl, hg, hc⟩
theorem own_en1 (w : World) (s : ByteArray) (y : Int) : (w.alloc (.cells #[.string s, .int .i64 y] 63)).ownsRow w.heap.size 63 2 (.slice (some ⟨w.heap.size, 0, none⟩) 1 1) 1 (ens [(s, y)]) :=
  ⟨by simp [ens], .inr ⟨w.heap.size, 1, #[.string s, .int .i64 y], rfl, Nat.le_refl _, heap_alloc_new w _, Nat.le_refl _, by unfold maxLen; omega, by simp, by simp [ens]⟩⟩
end Go.Proofs.Ythoiljgpggldcaa
/- Plain words on entries without a name. -/
open Go.RowKit
namespace Go.Proofs.Ythoiljgpggldcaa
def notN (t : ByteArray) (x : ByteArray × Int) : Bool := !decide (x.1 = t)
def dropE (xs : List (ByteArray × Int)) (t : ByteArray) : List (ByteArray × Int) := if entriesV xs = true then xs.filter (notN t) else []
def dropB (xs : List (ByteArray × Int)) (t : ByteArray) : Bool := entriesV xs && decide ((dropE xs t).length < xs.length)
theorem dropE_yes {xs : List (ByteArray × Int)} {t : ByteArray} (h : entriesV xs = true) : dropE xs t = xs.filter (notN t) := if_pos h
theorem dropE_no {xs : List (ByteArray × Int)} {t : ByteArray} (h : entriesV xs = false) : dropE xs t = [] := if_neg (by rw [h]; simp)
theorem dropE_len {xs : List (ByteArray × Int)} {t : ByteArray} : (dropE xs t).length ≤ xs.length := by
  unfold dropE
  split
  · exact List.length_filter_le _ _
  · exact Nat.zero_le _
/-- Where the name is not among them nothing goes. -/
theorem filter_none {xs : List (ByteArray × Int)} {t : ByteArray} (hv : entriesV xs = true) (h : foundOf (enBelow t) (enIs t) xs = false) : xs.filter (notN t) = xs := by
  have hf : Falls (fun x => enBelow t x || enIs t x) xs := falls_of hv fun x y hl hp => by
    have h2 : enBelow t y = true ∨ enIs t y = true := by simpa using hp
    rcases h2 with h2 | h2
    · have : enBelow t x = true := bytesLess_trans _ _ _ hl h2
      simp [this]
    · have he : y.1 = t := of_decide_eq_true h2
      have : enBelow t x = true := by
        have hl' : ltB x.1 y.1 = true := hl
        rw [he] at hl'
        exact hl'
      simp [this]
  have hn := found_no hf (fun x hi => by
    have he : x.1 = t := of_decide_eq_true hi
    show ltB x.1 t = false
    rw [he]
    exact ltB_self t) h
  rw [List.filter_eq_self]
  intro x hx
  have := hn x hx
  unfold notN
  unfold enIs at this
  rw [this]
  rfl
theorem filter_one {xs : List (ByteArray × Int)} {t : ByteArray} (hv : entriesV xs = true) (h : foundOf (enBelow t) (enIs t) xs = true) :
    posOf (enBelow t) xs < xs.length ∧ xs.filter (notN t) = xs.take (posOf (enBelow t) xs) ++ xs.drop (posOf (enBelow t) xs + 1) := by
  obtain ⟨x, hx, hi⟩ := found_yes h
  have hpx := posOf_at hx
  have hff := entries_falls hv t
  obtain ⟨hlt, hxe⟩ := List.getElem?_eq_some_iff.1 hx
  have hbef : ∀ k y, k < posOf (enBelow t) xs → xs[k]? = some y → notN t y = true := fun k y hk hy => by
    have h1 : enBelow t y = true := posOf_before hk hy
    have hne : ¬ y.1 = t := fun e => by
      have h2 : ltB y.1 t = true := h1
      rw [e, ltB_self] at h2
      cases h2
    unfold notN
    rw [decide_eq_false hne]
    rfl
  have haft : ∀ k y, posOf (enBelow t) xs < k → xs[k]? = some y → notN t y = true := fun k y hk hy => by
    obtain ⟨hkl, _⟩ := List.getElem?_eq_some_iff.1 hy
    have hne : ¬ y.1 = t := fun e => by
      obtain ⟨k', rfl⟩ : ∃ k', k = k' + 1 := ⟨k - 1, by omega⟩
      have hz : xs[k']? = some (xs[k']'(by omega)) := List.getElem?_eq_getElem (by omega)
      have hg := goodAll_at hv hkl
      rw [goodAt_succ hy hz (goodAt_ok hg hy)] at hg
      have h3 : ltB (xs[k']'(by omega)).1 t = true := by
        have hg' : ltB (xs[k']'(by omega)).1 y.1 = true := hg
        rw [e] at hg'
        exact hg'
      have h4 := hff (posOf (enBelow t) xs) k' x _ (by omega) hx hz h3
      rw [hpx] at h4
      cases h4
    unfold notN
    rw [decide_eq_false hne]
    rfl
  refine ⟨hlt, ?_⟩
  have hsplit : xs = xs.take (posOf (enBelow t) xs) ++ x :: xs.drop (posOf (enBelow t) xs + 1) := by
    rw [← hxe, ← List.drop_eq_getElem_cons hlt, List.take_append_drop]
  generalize hp : posOf (enBelow t) xs = q at *
  have h1 : (xs.take q).filter (notN t) = xs.take q := by
    rw [List.filter_eq_self]
    intro y hy
    obtain ⟨j, hj⟩ := List.getElem?_of_mem hy
    rw [List.getElem?_take] at hj
    split at hj
    · exact hbef j y (by assumption) hj
    · cases hj
  have h2 : (xs.drop (q + 1)).filter (notN t) = xs.drop (q + 1) := by
    rw [List.filter_eq_self]
    intro y hy
    obtain ⟨j, hj⟩ := List.getElem?_of_mem hy
    rw [List.getElem?_drop] at hj
    exact haft (q + 1 + j) y (by omega) hj
  have h3 : notN t x = false := by
    unfold notN
    unfold enIs at hi
    rw [hi]
    rfl
  calc xs.filter (notN t) = (xs.take q ++ x :: xs.drop (q + 1)).filter (notN t) := by rw [← hsplit]
    _ = xs.take q ++ xs.drop (q + 1) := by rw [List.filter_append, List.filter_cons, h3, h1, h2]; rfl
end Go.Proofs.Ythoiljgpggldcaa
