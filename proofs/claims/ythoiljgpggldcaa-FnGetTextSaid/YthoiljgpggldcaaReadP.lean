/- Plain words on reading texts of folders. -/
import Derived.Test.YthoiljgpggldcaaFoldP
import Derived.Test.YthoiljgpggldcaaM5
open Go.RowKit
namespace Go.Proofs.Ythoiljgpggldcaa
structure ReadF (s : ByteArray) (ys : List (ByteArray × Int)) (ok : Bool) : Prop where
  yes : ok = true → entriesV ys = true ∧ folderT ys = s
  no : ok = false → ys = [] ∧ ∀ es, entriesV es = true → folderT es = s → False
theorem ReadF.same {s : ByteArray} {ys ys' : List (ByteArray × Int)} {ok ok' : Bool} (h : ReadF s ys ok) (h' : ReadF s ys' ok') : ys = ys' ∧ ok = ok' := by
  cases ok
  · obtain ⟨h1, h2⟩ := h.no rfl
    cases ok'
    · obtain ⟨h3, _⟩ := h'.no rfl
      exact ⟨h1.trans h3.symm, rfl⟩
    · obtain ⟨h3, h4⟩ := h'.yes rfl
      exact (h2 _ h3 h4).elim
  · obtain ⟨h1, h2⟩ := h.yes rfl
    cases ok'
    · obtain ⟨_, h4⟩ := h'.no rfl
      exact (h4 _ h1 h2).elim
    · obtain ⟨h3, h4⟩ := h'.yes rfl
      exact ⟨folderT_inj h1 h3 (h2.trans h4.symm), rfl⟩
theorem readF_bad {s : ByteArray} (h : ∀ es, entriesV es = true → folderT es = s → False) : ReadF s [] false := ⟨fun e => (by cases e), fun _ => ⟨rfl, h⟩⟩
theorem ReadF.len {s : ByteArray} {ys : List (ByteArray × Int)} {ok : Bool} (h : ReadF s ys ok) : ys.length ≤ 3 := by
  cases ok
  · rw [(h.no rfl).1]
    exact Nat.zero_le _
  · exact entriesV_len (h.yes rfl).1
/-- Whatever the text is of, what is read is a beginning of it, and the rest is what is to be read. -/
def FoldAt (s : ByteArray) (ys : List (ByteArray × Int)) (rest : List UInt8) : Prop := ∀ es, entriesV es = true → folderT es = s → ∃ zs, es = ys ++ zs ∧ rest = foldL zs
theorem folderT_list {es : List (ByteArray × Int)} {s : ByteArray} (hv : entriesV es = true) (he : folderT es = s) : s.data.toList = 100 :: foldL es := by
  rw [← he, folderT_in hv]
  rfl
theorem foldAt_start (s : ByteArray) : FoldAt s [] (s.data.toList.drop 1) := fun es hv he => by
  refine ⟨es, rfl, ?_⟩
  rw [folderT_list hv he]
  rfl
theorem foldL_nil {zs : List (ByteArray × Int)} (h : foldL zs = []) : zs = [] := by
  cases zs with
  | nil => rfl
  | cons z zs =>
    rw [foldL_cons] at h
    exact absurd h (line_ne _ _)
section
variable {s : ByteArray} {ys : List (ByteArray × Int)} {A C D B rest : List UInt8}
theorem foldAt_end (hs : s ≠ ⟨#[]⟩) (hf : folderT ys = s) : ReadF s ys true := by
  refine ⟨fun _ => ⟨?_, hf⟩, fun e => (by cases e)⟩
  cases hv : entriesV ys
  · rw [folderT_out hv] at hf
    exact absurd hf.symm hs
  · rfl
theorem foldAt_not (h : FoldAt s ys []) (hf : folderT ys ≠ s) : ReadF s [] false := readF_bad fun es hv he => by
  obtain ⟨zs, rfl, hz⟩ := h es hv he
  rw [foldL_nil hz.symm, List.append_nil] at he
  exact hf he
theorem foldAt_cons (h : FoldAt s ys rest) (hr : rest ≠ []) {es : List (ByteArray × Int)} (hv : entriesV es = true) (he : folderT es = s) : ∃ z zs, es = ys ++ z :: zs ∧ LineOk z ∧ rest = lineL z ++ foldL zs := by
  obtain ⟨zs, rfl, hz⟩ := h es hv he
  cases zs with
  | nil => exact absurd hz hr
  | cons z zs => exact ⟨z, zs, rfl, entriesV_ok hv z (List.mem_append.2 (.inr (List.mem_cons_self ..))), by rw [hz, foldL_cons]⟩
theorem hex_noSemi {z : ByteArray × Int} (h : LineOk z) : ∀ c ∈ (hexT z.2).data.toList, c ≠ 59 := fun c hc => h.noSemi c (List.mem_append.2 (.inr (List.mem_cons.2 (.inr hc))))
theorem line_eq (z : ByteArray × Int) (r : List UInt8) : lineL z ++ r = z.1.data.toList ++ 61 :: ((hexT z.2).data.toList ++ 59 :: r) := by simp [lineL]
theorem foldAt_step (h : FoldAt s ys (A ++ 61 :: (C ++ 59 :: D))) (hA : ∀ x ∈ A, x ≠ 61) (hC : ∀ x ∈ C, x ≠ 59) : FoldAt s (ys ++ [(ofL A, readH (ofL C))]) D := fun es hv he => by
  obtain ⟨z, zs, rfl, hz, hr⟩ := foldAt_cons h (by simp) hv he
  rw [line_eq] at hr
  obtain ⟨h1, h2⟩ := cut_same 61 _ _ _ _ hA hz.noEq hr
  obtain ⟨h3, h4⟩ := cut_same 59 _ _ _ _ hC (hex_noSemi hz) h2
  have e1 : ofL A = z.1 := by rw [h1]; rfl
  have e2 : readH (ofL C) = z.2 := by rw [h3]; exact readH_hexT hz.lo hz.hi
  refine ⟨zs, ?_, h4⟩
  rw [e1, e2, List.append_assoc]
  rfl
theorem foldAt_no61 (h : FoldAt s ys rest) (hr : rest ≠ []) (hn : ∀ x ∈ rest, x ≠ 61) : ReadF s [] false := readF_bad fun es hv he => by
  obtain ⟨z, zs, rfl, hz, e⟩ := foldAt_cons h hr hv he
  rw [line_eq] at e
  exact hn 61 (by rw [e]; simp) rfl
theorem foldAt_no59 (h : FoldAt s ys rest) (hr : rest ≠ []) (hn : ∀ x ∈ rest, x ≠ 59) : ReadF s [] false := readF_bad fun es hv he => by
  obtain ⟨z, zs, rfl, hz, e⟩ := foldAt_cons h hr hv he
  rw [line_eq] at e
  exact hn 59 (by rw [e]; simp) rfl
theorem foldAt_late (h : FoldAt s ys (A ++ 61 :: B)) (hA : ∀ x ∈ A, x ≠ 61) (hB : ∀ x ∈ B, x ≠ 59) : ReadF s [] false := readF_bad fun es hv he => by
  obtain ⟨z, zs, rfl, hz, e⟩ := foldAt_cons h (by simp) hv he
  rw [line_eq] at e
  obtain ⟨_, h2⟩ := cut_same 61 _ _ _ _ hA hz.noEq e
  exact hB 59 (by rw [h2]; simp) rfl
theorem foldAt_part (h : FoldAt s ys (A ++ 59 :: D)) (hA : ∀ x ∈ A, x ≠ 59) (hE : ∀ x ∈ A, x ≠ 61) : ReadF s [] false := readF_bad fun es hv he => by
  obtain ⟨z, zs, rfl, hz, e⟩ := foldAt_cons h (by simp) hv he
  rw [line_app] at e
  obtain ⟨h1, _⟩ := cut_same 59 _ _ _ _ hA hz.noSemi e
  exact hE 61 (by rw [h1]; simp) rfl
theorem foldAt_full (h : FoldAt s ys rest) (hr : rest ≠ []) (hl : ys.length = 3) : ReadF s [] false := readF_bad fun es hv he => by
  obtain ⟨z, zs, rfl, hz, e⟩ := foldAt_cons h hr hv he
  have := entriesV_len hv
  rw [List.length_append, List.length_cons] at this
  omega
end
theorem cut_no (c : UInt8) (l : List UInt8) (h : ∀ x ∈ l, x ≠ c) : Lib.cut l [c] = (l, [], false) := by
  unfold Lib.cut
  have e : Lib.indexByte l c = -1 := by
    have hg := Lib.indexByte_ge l c
    refine Decidable.byContradiction fun hn => ?_
    obtain ⟨o, ho⟩ := Int.eq_ofNat_of_zero_le (show 0 ≤ Lib.indexByte l c by omega)
    exact h c (List.mem_of_getElem? (Lib.indexByte_some ho).1) rfl
  rw [Lib.index_one, e, if_neg (by omega)]
theorem first_at (c : UInt8) : ∀ l : List UInt8, c ∈ l → ∃ a r, l = a ++ c :: r ∧ ∀ x ∈ a, x ≠ c
  | [], h => by cases h
  | x :: l, h => by
    by_cases hx : x = c
    · exact ⟨[], l, by rw [hx]; rfl, fun y hy => by cases hy⟩
    · obtain ⟨a, r, e, hn⟩ := first_at c l ((List.mem_cons.1 h).resolve_left fun e => hx e.symm)
      exact ⟨x :: a, r, by rw [e]; rfl, fun y hy => by
        rcases List.mem_cons.1 hy with rfl | hy
        · exact hx
        · exact hn y hy⟩
theorem cut_cases (c : UInt8) (l : List UInt8) : (∃ a r, l = a ++ c :: r ∧ (∀ x ∈ a, x ≠ c) ∧ Lib.cut l [c] = (a, r, true)) ∨ ((∀ x ∈ l, x ≠ c) ∧ Lib.cut l [c] = (l, [], false)) := by
  by_cases h : c ∈ l
  · obtain ⟨a, r, e, hn⟩ := first_at c l h
    exact .inl ⟨a, r, e, hn, by rw [e]; exact cut_yes c a r hn⟩
  · have hn : ∀ x ∈ l, x ≠ c := fun x hx e => h (e ▸ hx)
    exact .inr ⟨hn, cut_no c l hn⟩
/-! Places. -/
theorem drop_at {l : List UInt8} {a k : Nat} {c : UInt8} (h : l[k]? = some c) (hk : a ≤ k) : l.drop a = (l.drop a).take (k - a) ++ c :: l.drop (k + 1) := by
  obtain ⟨hl, hc⟩ := List.getElem?_eq_some_iff.1 h
  have e : (l.drop a).drop (k - a) = c :: l.drop (k + 1) := by
    rw [List.drop_drop, show a + (k - a) = k from by omega, List.drop_eq_getElem_cons hl, hc]
  rw [← e, List.take_append_drop]
theorem take_not {l : List UInt8} {a k : Nat} {c : UInt8} (h : ∀ j, a ≤ j → j < k → l[j]? ≠ some c) : ∀ x ∈ (l.drop a).take (k - a), x ≠ c := fun x hx e => by
  obtain ⟨j, hj⟩ := List.getElem?_of_mem hx
  rw [List.getElem?_take] at hj
  split at hj
  · rw [List.getElem?_drop] at hj
    exact h (a + j) (by omega) (by omega) (by rw [hj, e])
  · cases hj
theorem drop_not {l : List UInt8} {a : Nat} {c : UInt8} (h : ∀ j, a ≤ j → j < l.length → l[j]? ≠ some c) : ∀ x ∈ l.drop a, x ≠ c := fun x hx e => by
  obtain ⟨j, hj⟩ := List.getElem?_of_mem hx
  rw [List.getElem?_drop] at hj
  obtain ⟨hl, _⟩ := List.getElem?_eq_some_iff.1 hj
  exact h (a + j) (by omega) hl (by rw [hj, e])
theorem ex_ofL (s : ByteArray) (a b : Nat) : s.extract a b = ofL ((s.data.toList.drop a).take (b - a)) := by
  have e := bts_extract s a b
  exact ByteArray.ext (Array.toList_inj.1 e)
end Go.Proofs.Ythoiljgpggldcaa
