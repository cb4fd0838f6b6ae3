/- The texts InsE PutI L20B PutQ as one. -/
import Derived.Test.YthoiljgpggldcaaIns
import Derived.Test.YthoiljgpggldcaaM6
import Derived.Test.YthoiljgpggldcaaPutD
import Derived.Test.YthoiljgpggldcaaM12
import Derived.Test.YthoiljgpggldcaaM8
import Derived.Laws.StructEq
/- Contract of slices.Insert at entries: one more among those of a row of the call's own. -/
open Go.RowKit
namespace Go.Proofs.Ythoiljgpggldcaa
end Go.Proofs.Ythoiljgpggldcaa
/- Contract of the program's PutEntry. -/
open Go.RowKit
namespace Go.Proofs.Ythoiljgpggldcaa
theorem here_found (t : ByteArray) (xs : List (ByteArray × Int)) : enHere t xs = foundOf (enBelow t) (enIs t) xs := by
  unfold enHere foundOf enPos
  cases xs[posOf (enBelow t) xs]? <;> rfl
theorem putL_found {xs : List (ByteArray × Int)} {t : ByteArray} {p : Int} (h : foundOf (enBelow t) (enIs t) xs = true) : posOf (enBelow t) xs < xs.length ∧ putL xs t p = xs.set (posOf (enBelow t) xs) (t, p) := by
  obtain ⟨x, hx, _⟩ := found_yes h
  obtain ⟨hlt, _⟩ := List.getElem?_eq_some_iff.1 hx
  refine ⟨hlt, ?_⟩
  unfold putL
  rw [here_found, h, if_pos rfl, List.set_eq_take_append_cons_drop, if_pos hlt, List.append_assoc]
  rfl
theorem putL_new {xs : List (ByteArray × Int)} {t : ByteArray} {p : Int} (h : foundOf (enBelow t) (enIs t) xs = false) : putL xs t p = xs.take (posOf (enBelow t) xs) ++ [(t, p)] ++ xs.drop (posOf (enBelow t) xs) := by
  unfold putL
  rw [here_found, h, if_neg (by simp)]
  rfl
theorem putL_len0 {xs : List (ByteArray × Int)} {t : ByteArray} {p : Int} : (putL xs t p).length ≤ xs.length + 1 := by
  have := posOf_le (enBelow t) xs
  unfold putL enPos
  split
  · rw [List.length_append, List.length_append, List.length_take, List.length_drop, List.length_singleton]; omega
  · rw [List.length_append, List.length_append, List.length_take, List.length_drop, List.length_singleton]; omega
theorem putL_size {xs : List (ByteArray × Int)} {t : ByteArray} {p : Int} (hx : ∀ x ∈ xs, x.1.size ≤ maxLen) (ht : t.size ≤ maxLen) : ∀ x ∈ putL xs t p, x.1.size ≤ maxLen := by
  intro x h
  unfold putL at h
  rw [List.mem_append, List.mem_append, List.mem_singleton] at h
  rcases h with (h | h) | h
  · exact hx x (List.mem_of_mem_take h)
  · rw [h]; exact ht
  · split at h <;> exact hx x (List.mem_of_mem_drop h)
theorem ens_set (xs : List (ByteArray × Int)) (k : Nat) (t : ByteArray) (p : Int) (h : k < xs.length) : ((ens xs).set (k * 2) (.string t)).set (k * 2 + 1) (.int .i64 p) = ens (xs.set k (t, p)) := by
  rw [List.set_eq_take_append_cons_drop (l := xs), if_pos h, show (t, p) :: xs.drop (k + 1) = [(t, p)] ++ xs.drop (k + 1) from rfl, ens_append, ens_append, ens_take, ens_drop]
  have hl := ens_length xs
  rw [List.set_eq_take_append_cons_drop, if_pos (by rw [List.length_set]; omega), List.set_eq_take_append_cons_drop, if_pos (by omega)]
  have h1 : ((ens xs).take (k * 2)).length = k * 2 := by rw [List.length_take]; omega
  rw [List.take_append, List.drop_append, h1, List.take_of_length_le (l := (ens xs).take (k * 2)) (by omega), List.drop_of_length_le (l := (ens xs).take (k * 2)) (by omega), show k * 2 + 1 - k * 2 = 1 from by omega, show k * 2 + 1 + 1 - k * 2 = 2 from by omega, show (k + 1) * 2 = k * 2 + 1 + 1 from by omega]
  simp [ens]
end Go.Proofs.Ythoiljgpggldcaa
/- What is drawn: entries, in a row that has a block. -/
open Go.RowKit
namespace Go.Proofs.Ythoiljgpggldcaa
theorem own_blk {w : World} {base n : Nat} {e : TypeId} {v : Value} {xs : List Value} (h : w.ownsRow base e 2 v n xs) (hn : 0 < n) : v.ownBlock ≠ none := by
  obtain ⟨_, _, _, h2⟩ := own_block h hn
  exact h2
/-- What is left when entries have been drawn. -/
def DrawnEB (w : World) (R p : Nat) (e : Ending) (w' : World) : Prop := ∃ (v : Value) (n : Nat) (es : List (ByteArray × Int)), e = .returned v ∧ n ≤ 5 ∧ (∀ x ∈ es, x.1.size ≤ 9) ∧ w'.ownsRow w.heap.size 63 2 v n (ens es) ∧ Rdr w' R (p + 100) ∧ w.grownBy w' (some R) ∧ v.ownBlock ≠ none
end Go.Proofs.Ythoiljgpggldcaa
/- Plain words: what putting an entry comes to. And what is drawn for it. -/
open Go.RowKit
namespace Go.Proofs.Ythoiljgpggldcaa
theorem putE_false {xs : List (ByteArray × Int)} {t : ByteArray} {p : Int} (h : (putE xs t p).2 = false) : (putE xs t p).1 = xs ∨ (putE xs t p).1 = [] := by
  unfold putE at h ⊢
  split
  · rename_i hv
    rw [if_pos hv] at h
    split
    · rename_i h2
      rw [if_pos h2] at h
      cases h
    · exact .inl rfl
  · exact .inr rfl
theorem putE_true {xs : List (ByteArray × Int)} {t : ByteArray} {p : Int} (h : (putE xs t p).2 = true) : entriesV xs = true ∧ entriesV (putL xs t p) = true ∧ putE xs t p = (putL xs t p, true) := by
  unfold putE at h ⊢
  split
  · rename_i hv
    rw [if_pos hv] at h
    split
    · rename_i h2
      exact ⟨hv, h2, rfl⟩
    · rename_i h2
      rw [if_neg h2] at h
      cases h
  · rename_i hv
    rw [if_neg hv] at h
    cases h
theorem notN_self (t : ByteArray) (p : Int) : notN t (t, p) = false := by
  unfold notN
  rw [decide_eq_true rfl]
  rfl
theorem putL_drop (xs : List (ByteArray × Int)) (t : ByteArray) (p : Int) : (putL xs t p).filter (notN t) = xs.filter (notN t) ∧ ((putL xs t p).filter (notN t)).length < (putL xs t p).length := by
  have hsplit : xs.filter (notN t) = (xs.take (enPos t xs)).filter (notN t) ++ (xs.drop (enPos t xs)).filter (notN t) := by rw [← List.filter_append, List.take_append_drop]
  have hl1 := List.length_filter_le (notN t) (xs.take (enPos t xs))
  cases hh : enHere t xs
  · have e : putL xs t p = xs.take (enPos t xs) ++ [(t, p)] ++ xs.drop (enPos t xs) := by unfold putL; rw [hh, if_neg (by simp)]
    have e2 : (putL xs t p).filter (notN t) = xs.filter (notN t) := by
      rw [e, List.filter_append, List.filter_append, hsplit]
      simp [notN_self]
    refine ⟨e2, ?_⟩
    have hl2 := List.length_filter_le (notN t) (xs.drop (enPos t xs))
    rw [e2, hsplit, e]
    simp only [List.length_append, List.length_singleton]
    omega
  · have hx : ∃ x, xs[enPos t xs]? = some x ∧ x.1 = t := by
      unfold enHere at hh
      cases hq : xs[enPos t xs]? with
      | none => rw [hq] at hh; cases hh
      | some x => rw [hq] at hh; exact ⟨x, rfl, of_decide_eq_true hh⟩
    obtain ⟨x, hx1, hx2⟩ := hx
    obtain ⟨hlt, hxe⟩ := List.getElem?_eq_some_iff.1 hx1
    have hd : xs.drop (enPos t xs) = x :: xs.drop (enPos t xs + 1) := by rw [List.drop_eq_getElem_cons hlt, hxe]
    have hnx : notN t x = false := by unfold notN; rw [hx2, decide_eq_true rfl]; rfl
    have e : putL xs t p = xs.take (enPos t xs) ++ [(t, p)] ++ xs.drop (enPos t xs + 1) := by unfold putL; rw [hh, if_pos rfl]
    have e2 : (putL xs t p).filter (notN t) = xs.filter (notN t) := by
      rw [e, List.filter_append, List.filter_append, hsplit, hd]
      simp [notN_self, hnx]
    refine ⟨e2, ?_⟩
    have hl2 := List.length_filter_le (notN t) (xs.drop (enPos t xs + 1))
    rw [e2, hsplit, e, hd, List.filter_cons, hnx, if_neg (by simp)]
    simp only [List.length_append, List.length_singleton]
    omega
theorem putL_mem0 (xs : List (ByteArray × Int)) (t : ByteArray) (p : Int) : (t, p) ∈ putL xs t p := by
  unfold putL
  simp
theorem putL_dropE {xs : List (ByteArray × Int)} {t : ByteArray} {p : Int} (h1 : entriesV xs = true) (h2 : entriesV (putL xs t p) = true) : dropE (putL xs t p) t = dropE xs t ∧ dropB (putL xs t p) t = true := by
  obtain ⟨e1, e2⟩ := putL_drop xs t p
  refine ⟨by rw [dropE_yes h1, dropE_yes h2, e1], ?_⟩
  unfold dropB
  rw [h2, dropE_yes h2, Bool.true_and]
  exact decide_eq_true e2
/-- Whether one is among the first. -/
def amongF (xs : List (ByteArray × Int)) (x : ByteArray × Int) (k : Nat) : Bool := (xs.take k).any fun y => decide (y = x)
theorem among_zero (xs : List (ByteArray × Int)) (x : ByteArray × Int) : amongF xs x 0 = false := by simp [amongF]
theorem among_succ {xs : List (ByteArray × Int)} {x y : ByteArray × Int} {k : Nat} (h : xs[k]? = some y) : amongF xs x (k + 1) = (amongF xs x k || decide (y = x)) := by
  unfold amongF
  rw [take_snoc h, List.any_append]
  simp
theorem among_all {xs : List (ByteArray × Int)} {x : ByteArray × Int} (h : x ∈ xs) : amongF xs x xs.length = true := by
  unfold amongF
  rw [List.take_length, List.any_eq_true]
  exact ⟨x, h, decide_eq_true rfl⟩
theorem eql_en (s t : ByteArray) (p q : Int) (W : World) : (binOp .eql 63 (.agg #[.string s, .int .i64 p]) (.agg #[.string t, .int .i64 q])).run Try.prog W = .ok (.bool (decide ((s, p) = (t, q)))) W := by
  have h1 : Try.prog.underlying 63 = some (.struct (Try.prog.fieldsOf 63)) := by kernel_rfl
  have h2 : Try.prog.stoodInHeld 63 = false := by kernel_rfl
  have e : (s.toList == t.toList && p == q) = decide ((s, p) = (t, q)) := by
    rw [Bool.eq_iff_iff]
    simp only [Bool.and_eq_true, beq_iff_eq, decide_eq_true_eq, Prod.mk.injEq, Lib.toList_data]
    exact ⟨fun ⟨h1, h2⟩ => ⟨ByteArray.ext (Array.toList_inj.1 h1), h2⟩, fun ⟨h1, h2⟩ => ⟨by rw [h1], h2⟩⟩
  rw [← e, run_eql_struct, run_equalIn_agg _ 9999 63 _ _ h1 h2]
  simp [Op.eqFields, go_sem]
  by_cases h : s.toList = t.toList <;> by_cases h' : p = q <;> simp [h, h']
end Go.Proofs.Ythoiljgpggldcaa
