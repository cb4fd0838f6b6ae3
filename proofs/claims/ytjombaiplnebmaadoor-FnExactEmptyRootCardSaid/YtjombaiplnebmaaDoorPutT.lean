/- Contract of the program's PutText. And plain words: what putting a text comes to. -/
import Derived.Test.YtjombaiplnebmaaDoorFindP
import Derived.Test.YtjombaiplnebmaaDoorInsP
import Derived.Test.YtjombaiplnebmaaDoorCloneP
import Derived.Test.YtjombaiplnebmaaDoorStoreV
import Derived.Test.YtjombaiplnebmaaDoorWords
open Go.RowKit
namespace Go.Proofs.YtjombaiplnebmaaDoor
def insP (xs : List (Int × ByteArray)) (s : ByteArray) : List (Int × ByteArray) := xs.take (posOf (pcBelow (printP s)) xs) ++ [(printP s, s)] ++ xs.drop (posOf (pcBelow (printP s)) xs)
def putT (xs : List (Int × ByteArray)) (s : ByteArray) : List (Int × ByteArray) × Int × Bool :=
  if storeV xs = true then
    if textV (bts s) = true then
      if foundOf (pcBelow (printP s)) (pcIs (printP s)) xs = true then
        (if (xs[posOf (pcBelow (printP s)) xs]?).map (·.2) = some s then (xs, printP s, true) else (xs, -1, false))
      else if xs.length = 40 then (xs, -1, false) else (insP xs s, printP s, true)
    else (xs, -1, false)
  else ([], -1, false)
section
variable {xs : List (Int × ByteArray)} {s : ByteArray}
theorem putT_bad (h : storeV xs = false) : putT xs s = ([], -1, false) := if_neg (by rw [h]; simp)
theorem putT_no (h : storeV xs = true) (ht : textV (bts s) = false) : putT xs s = (xs, -1, false) := by
  unfold putT
  rw [if_pos h, if_neg (by rw [ht]; simp)]
theorem putT_here {x : Int × ByteArray} (h : storeV xs = true) (ht : textV (bts s) = true) (hf : foundOf (pcBelow (printP s)) (pcIs (printP s)) xs = true) (hx : xs[posOf (pcBelow (printP s)) xs]? = some x) (he : x.2 = s) : putT xs s = (xs, printP s, true) := by
  unfold putT
  rw [if_pos h, if_pos ht, if_pos hf, hx, if_pos (by rw [← he]; rfl)]
theorem putT_other {x : Int × ByteArray} (h : storeV xs = true) (ht : textV (bts s) = true) (hf : foundOf (pcBelow (printP s)) (pcIs (printP s)) xs = true) (hx : xs[posOf (pcBelow (printP s)) xs]? = some x) (he : ¬ x.2 = s) : putT xs s = (xs, -1, false) := by
  unfold putT
  rw [if_pos h, if_pos ht, if_pos hf, hx]
  exact if_neg (fun e => he (Option.some.inj e))
theorem putT_full (h : storeV xs = true) (ht : textV (bts s) = true) (hf : foundOf (pcBelow (printP s)) (pcIs (printP s)) xs = false) (hl : xs.length = 40) : putT xs s = (xs, -1, false) := by
  unfold putT
  rw [if_pos h, if_pos ht, if_neg (by rw [hf]; simp), if_pos hl]
theorem putT_new (h : storeV xs = true) (ht : textV (bts s) = true) (hf : foundOf (pcBelow (printP s)) (pcIs (printP s)) xs = false) (hl : ¬ xs.length = 40) : putT xs s = (insP xs s, printP s, true) := by
  unfold putT
  rw [if_pos h, if_pos ht, if_neg (by rw [hf]; simp), if_neg hl]
theorem insP_len : (insP xs s).length = xs.length + 1 := by
  have := posOf_le (pcBelow (printP s)) xs
  unfold insP
  rw [List.length_append, List.length_append, List.length_take, List.length_drop, List.length_singleton]
  omega
theorem putT_len : (putT xs s).1.length ≤ xs.length + 1 := by
  unfold putT
  split
  · split
    · split
      · split <;> exact Nat.le_succ _
      · split
        · exact Nat.le_succ _
        · exact Nat.le_of_eq insP_len
    · exact Nat.le_succ _
  · exact Nat.zero_le _
theorem insP_mem : ∀ x ∈ insP xs s, x ∈ xs ∨ x = (printP s, s) := by
  intro x hx
  unfold insP at hx
  rw [List.mem_append, List.mem_append, List.mem_singleton] at hx
  rcases hx with (hx | hx) | hx
  · exact .inl (List.mem_of_mem_take hx)
  · exact .inr hx
  · exact .inl (List.mem_of_mem_drop hx)
theorem putT_mem : ∀ x ∈ (putT xs s).1, x ∈ xs ∨ x = (printP s, s) := by
  intro x hx
  unfold putT at hx
  split at hx
  · split at hx
    · split at hx
      · split at hx <;> exact .inl hx
      · split at hx
        · exact .inl hx
        · exact insP_mem x hx
    · exact .inl hx
  · cases hx
end
set_option maxRecDepth 8000 in
set_option maxHeartbeats 1600000 in
theorem implPutText (A : Option Addr) (n c : Nat) (s : ByteArray) (xs : List (Int × ByteArray)) (w : World) (h : Rd w 2 A n (pcs xs)) (hx : ∀ x ∈ xs, x.2.size ≤ maxLen) (hs : s.size ≤ maxLen) (hn : n ≤ 4194000) :
    Calls Tryd.prog 39 #[.slice A n c, .string s] w fun e w' => ∃ v, e = .returned (.tuple #[v, .int .i64 (putT xs s).2.1, .bool (putT xs s).2.2]) ∧ w'.ownsRow w.heap.size 63 2 v (putT xs s).1.length (pcs (putT xs s).1) ∧ Below w.heap.size w w' := by
  have HL := Lib.hid h.pcLen
  have HX := Lib.hid hx
  clear hx
  go_enter Tryd.func39, Tryd.ntmps39
  go_wp2_with fail
  refine (implStoreValid _ _ _ xs _ h HX.out).mono ?_
  rintro e w1 ⟨rfl, hb1⟩
  cases hv : storeV xs
  · have HP := Lib.hid (putT_bad (s := s) hv)
    clear hv
    go_wp2_with fail
    refine bodyPost_ret (v := .tuple #[.slice none 0 0, .int .i64 (-1), .bool false]) (by simp [results, Tryd.results39, go_sem]) rfl ?_
    rw [HP.out]
    exact ⟨_, rfl, ⟨by simp [pcs], .inl ⟨rfl, rfl⟩⟩, hb1⟩
  · have HV := Lib.hid hv
    have hff := store_falls hv (printP s)
    have hle := posOf_le (pcBelow (printP s)) xs
    clear hv
    have hr1 := h.below hb1
    cases ht : textV (bts s)
    · have HT := Lib.hid ht
      have HP := Lib.hid (putT_no HV.out ht)
      clear ht
      go_wp2_with (go_at_call 59; refine (implTextValid s _ hs).mono ?_; rintro e w' ⟨rfl, rfl⟩; rw [HT.out])
      refine (cloneP _ _ _ xs _ hr1 (by omega)).mono ?_
      rintro e w2 ⟨v2, rfl, hown2, hb2⟩
      go_wp2_with fail
      refine bodyPost_ret (v := .tuple #[v2, .int .i64 (-1), .bool false]) (by simp [results, Tryd.results39, go_sem]) rfl ?_
      rw [HP.out]
      dsimp only
      rw [HL.out]
      exact ⟨_, rfl, own_base hown2 hb1.size, below_step hb1 hb2⟩
    · have HT := Lib.hid ht
      clear ht
      go_wp2_with (first | (go_at_call 59; refine (implTextValid s _ hs).mono ?_; rintro e w' ⟨rfl, rfl⟩; rw [HT.out]) | (go_at_call 67; refine (implPrintOf s _ hs).mono ?_; rintro e w' ⟨rfl, rfl⟩))
      refine (findPieceC _ _ _ (printP s) xs _ hr1 hff (by omega)).mono ?_
      rintro e w2 ⟨rfl, hb2⟩
      have hr2 := hr1.below hb2
      have hB2 := below_step hb1 hb2
      cases hfo : foundOf (pcBelow (printP s)) (pcIs (printP s)) xs
      · by_cases h40 : n = 40
        · have HP := Lib.hid (putT_full HV.out HT.out hfo (by rw [HL.out]; exact h40))
          clear hfo
          have h40i : ((n : Int) == 40) = true := by rw [h40]; rfl
          have H40 := Lib.hid h40
          clear h40
          generalize posOf (pcBelow (printP s)) xs = q at *
          go_wp2_with fail
          refine (cloneP _ _ _ xs _ hr2 (by omega)).mono ?_
          rintro e w3 ⟨v3, rfl, hown3, hb3⟩
          go_wp2_with fail
          refine bodyPost_ret (v := .tuple #[v3, .int .i64 (-1), .bool false]) (by simp [results, Tryd.results39, go_sem]) rfl ?_
          rw [HP.out]
          dsimp only
          rw [HL.out]
          exact ⟨_, rfl, own_base hown3 hB2.size, below_step hB2 hb3⟩
        · have HP := Lib.hid (putT_new HV.out HT.out hfo (by rw [HL.out]; exact h40))
          have HI : Hid (insP xs s = xs.take (posOf (pcBelow (printP s)) xs) ++ [(printP s, s)] ++ xs.drop (posOf (pcBelow (printP s)) xs)) := Lib.hid rfl
          have HIL : Hid ((insP xs s).length = n + 1) := Lib.hid (by rw [insP_len, HL.out])
          have h40i : ((n : Int) == 40) = false := by simp; omega
          have hqn : posOf (pcBelow (printP s)) xs ≤ n := by have := HL.out; omega
          clear hfo
          generalize posOf (pcBelow (printP s)) xs = q at *
          go_wp2_with fail
          refine (cloneP _ _ _ xs _ hr2 (by omega)).mono ?_
          rintro e w3 ⟨v3, rfl, hown3, hb3⟩
          obtain ⟨A3, c3, rfl, hc3⟩ := own_slice hown3
          have hB3 := below_step hB2 hb3
          have hba : Below w3.heap.size w3 (w3.alloc (.cells #[.int .i64 (printP s), .string s] 63)) := (Below.refl _ _).alloc (Nat.le_refl _) _
          have hB4 := below_step hB3 hba
          have hown4 := own_below hown3 hba
          have hne4 : (Value.slice A3 n c3).ownBlock ≠ some w3.heap.size := fun e => by
            have := (hown3.lt _ e).2
            omega
          have hsz4 : w2.heap.size ≤ (w3.alloc (.cells #[.int .i64 (printP s), .string s] 63)).heap.size := Nat.le_trans hb3.size hba.size
          have qq := insertP w2.heap.size n c3 q w3.heap.size A3 xs (printP s, s) _ hown4 (heap_alloc_new w3 _) hne4 hqn (by omega) hsz4
          go_wp2_with fail
          refine qq.mono ?_
          rintro e w5 ⟨v5, rfl, hown5, hg5⟩
          rw [← HI.out] at hown5
          have hB5 : Below w.heap.size w w5 := hB4.grown hg5 hB4.size (fun k e => Nat.le_trans hB2.size (hown3.lt k e).1)
          go_wp2_with fail
          refine bodyPost_ret (v := .tuple #[v5, .int .i64 (printP s), .bool true]) (by simp [results, Tryd.results39, go_sem]) rfl ?_
          rw [HP.out]
          dsimp only
          rw [HIL.out]
          exact ⟨_, rfl, own_base hown5 hB2.size, hB5⟩
      · obtain ⟨x, hxk, hxi⟩ := found_yes hfo
        obtain ⟨hql, _⟩ := List.getElem?_eq_some_iff.1 hxk
        rw [HL.out] at hql
        obtain ⟨y, t⟩ := x
        have HPX := Lib.hid hxk
        have HFO := Lib.hid hfo
        by_cases hts : t = s
        · have HP := Lib.hid (putT_here HV.out HT.out hfo hxk hts)
          clear hfo hxi
          generalize posOf (pcBelow (printP s)) xs = q at *
          obtain ⟨b, off, y', t', rfl, hbb, hxk', hc0, hc1⟩ := hr2.pcAt hql
          rw [hxk] at hxk'
          injection hxk' with hxk'
          injection hxk' with e1 e2
          subst e1 e2 hts
          have hqi : (q : Int) < (n : Int) := by omega
          have heq : (t.toList == t.toList) = true := by simp
          have hneq : (t.toList != t.toList) = false := by simp
          clear hxk
          go_wp2_with fail
          refine (cloneP _ _ _ xs _ hr2 (by omega)).mono ?_
          rintro e w3 ⟨v3, rfl, hown3, hb3⟩
          go_wp2_with fail
          refine bodyPost_ret (v := .tuple #[v3, .int .i64 (printP t), .bool true]) (by simp [results, Tryd.results39, go_sem]) rfl ?_
          rw [HP.out]
          dsimp only
          rw [HL.out]
          exact ⟨_, rfl, own_base hown3 hB2.size, below_step hB2 hb3⟩
        · have HP := Lib.hid (putT_other HV.out HT.out hfo hxk hts)
          clear hfo hxi
          generalize posOf (pcBelow (printP s)) xs = q at *
          obtain ⟨b, off, y', t', rfl, hbb, hxk', hc0, hc1⟩ := hr2.pcAt hql
          rw [hxk] at hxk'
          injection hxk' with hxk'
          injection hxk' with e1 e2
          subst e1 e2
          have hqi : (q : Int) < (n : Int) := by omega
          have hneq0 : (t.toList == s.toList) = false := by
            rw [beq_eq_false_iff_ne]
            intro e
            rw [Lib.toList_data, Lib.toList_data] at e
            exact hts (ByteArray.ext (Array.toList_inj.1 e))
          have hneq : (t.toList != s.toList) = true := by rw [bne, hneq0]; rfl
          clear hxk hts
          go_wp2_with fail
          refine (cloneP _ _ _ xs _ hr2 (by omega)).mono ?_
          rintro e w3 ⟨v3, rfl, hown3, hb3⟩
          go_wp2_with fail
          refine bodyPost_ret (v := .tuple #[v3, .int .i64 (-1), .bool false]) (by simp [results, Tryd.results39, go_sem]) rfl ?_
          rw [HP.out]
          dsimp only
          rw [HL.out]
          exact ⟨_, rfl, own_base hown3 hB2.size, below_step hB2 hb3⟩
end Go.Proofs.YtjombaiplnebmaaDoor
