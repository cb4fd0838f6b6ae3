/- Contract of the program's PutEntry. -/
import Derived.Test.YtfjlocfaibbobabPutD
import Derived.Test.YtfjlocfaibbobabInsE
import Derived.Test.YtfjlocfaibbobabFindE
import Derived.Test.YtfjlocfaibbobabDel
import Derived.Test.YtfjlocfaibbobabEntryV
import Derived.Test.YtfjlocfaibbobabDropP
open Go.RowKit
namespace Go.Proofs.Ytfjlocfaibbobab
theorem here_found (t : ByteArray) (xs : List (ByteArray × Int)) : enHere t xs = foundOf (enBelow t) (enIs t) xs := by
  unfold enHere foundOf enPos
  cases xs[posOf (enBelow t) xs]? <;> rfl
theorem putL_found {xs : List (ByteArray × Int)} {t : ByteArray} {p : Int} (h : foundOf (enBelow t) (enIs t) xs = true) : posOf (enBelow t) xs < xs.length ∧ putL xs t p = xs.set (posOf (enBelow t) xs) (t, p) := by
  obtain ⟨x, hx, _⟩ := found_yes h
  obtain ⟨hlt, _⟩ := List.getElem?_eq_some_iff.1 hx
  refine ⟨hlt, ?_⟩
  unfold putL
  rw [here_found, h, if_pos rfl, List.set_eq_take_append_cons_drop, if_pos hlt, List.append_assoc]
  rfl
theorem putL_new {xs : List (ByteArray × Int)} {t : ByteArray} {p : Int} (h : foundOf (enBelow t) (enIs t) xs = false) : putL xs t p = xs.take (posOf (enBelow t) xs) ++ [(t, p)] ++ xs.drop (posOf (enBelow t) xs) := by
  unfold putL
  rw [here_found, h, if_neg (by simp)]
  rfl
theorem putL_len0 {xs : List (ByteArray × Int)} {t : ByteArray} {p : Int} : (putL xs t p).length ≤ xs.length + 1 := by
  have := posOf_le (enBelow t) xs
  unfold putL enPos
  split
  · rw [List.length_append, List.length_append, List.length_take, List.length_drop, List.length_singleton]; omega
  · rw [List.length_append, List.length_append, List.length_take, List.length_drop, List.length_singleton]; omega
theorem putL_size {xs : List (ByteArray × Int)} {t : ByteArray} {p : Int} (hx : ∀ x ∈ xs, x.1.size ≤ maxLen) (ht : t.size ≤ maxLen) : ∀ x ∈ putL xs t p, x.1.size ≤ maxLen := by
  intro x h
  unfold putL at h
  rw [List.mem_append, List.mem_append, List.mem_singleton] at h
  rcases h with (h | h) | h
  · exact hx x (List.mem_of_mem_take h)
  · rw [h]; exact ht
  · split at h <;> exact hx x (List.mem_of_mem_drop h)
theorem ens_set (xs : List (ByteArray × Int)) (k : Nat) (t : ByteArray) (p : Int) (h : k < xs.length) : ((ens xs).set (k * 2) (.string t)).set (k * 2 + 1) (.int .i64 p) = ens (xs.set k (t, p)) := by
  rw [List.set_eq_take_append_cons_drop (l := xs), if_pos h, show (t, p) :: xs.drop (k + 1) = [(t, p)] ++ xs.drop (k + 1) from rfl, ens_append, ens_append, ens_take, ens_drop]
  have hl := ens_length xs
  rw [List.set_eq_take_append_cons_drop, if_pos (by rw [List.length_set]; omega), List.set_eq_take_append_cons_drop, if_pos (by omega)]
  have h1 : ((ens xs).take (k * 2)).length = k * 2 := by rw [List.length_take]; omega
  rw [List.take_append, List.drop_append, h1, List.take_of_length_le (l := (ens xs).take (k * 2)) (by omega), List.drop_of_length_le (l := (ens xs).take (k * 2)) (by omega), show k * 2 + 1 - k * 2 = 1 from by omega, show k * 2 + 1 + 1 - k * 2 = 2 from by omega, show (k + 1) * 2 = k * 2 + 1 + 1 from by omega]
  simp [ens]
set_option maxRecDepth 8000 in
set_option maxHeartbeats 1600000 in
theorem implPutEntry (A : Option Addr) (n c : Nat) (t : ByteArray) (p : Int) (xs : List (ByteArray × Int)) (w : World) (h : Rd w 2 A n (ens xs)) (hx : ∀ x ∈ xs, x.1.size ≤ maxLen) (ht : t.size ≤ maxLen) (hn : n ≤ 4194000) :
    Calls Try.prog 14 #[.slice A n c, .agg #[.string t, .int .i64 p]] w fun e w' => ∃ v, e = .returned (.tuple #[v, .bool (putE xs t p).2]) ∧ w'.ownsRow w.heap.size 31 2 v (putE xs t p).1.length (ens (putE xs t p).1) ∧ Below w.heap.size w w' := by
  have HL := Lib.hid h.enLen
  have HX := Lib.hid hx
  have HPX := Lib.hid (putL_size (p := p) hx ht)
  clear hx
  have hb0 : Below w.heap.size w (w.alloc (.cells #[.string t, .int .i64 p] 31)) := (Below.refl _ _).alloc (Nat.le_refl _) _
  go_enter Try.func14, Try.ntmps14
  go_wp2_with fail
  refine (implEntriesValid _ _ _ xs _ (h.below hb0) HX.out).mono ?_
  rintro e w1 ⟨rfl, hb1'⟩
  have hb1 := below_step hb0 hb1'
  have c0 : w1.cell? ⟨w.heap.size, 0, none⟩ = some (.string t) := (hb1'.cell (by simp)).trans (cell_of_row _ _ 0 _ 31 (0, 0) (heap_alloc_new w _))
  have c1 : w1.cell? ⟨w.heap.size, 1, none⟩ = some (.int .i64 p) := (hb1'.cell (by simp)).trans (cell_of_row _ _ 1 _ 31 (0, 0) (heap_alloc_new w _))
  clear hb1'
  cases hv : entriesV xs
  · have HP : Hid (putE xs t p = ([], false)) := Lib.hid (by unfold putE; rw [hv]; rfl)
    clear hv
    go_wp2_with fail
    refine bodyPost_ret (v := .tuple #[.slice none 0 0, .bool false]) (by simp [results, Try.results14, go_sem]) rfl ?_
    rw [HP.out]
    exact ⟨_, rfl, ⟨by simp [ens], .inl ⟨rfl, rfl⟩⟩, hb1⟩
  · have hff := entries_falls hv t
    have h3 := goodAll_len hv
    have hle := posOf_le (enBelow t) xs
    have HV := Lib.hid hv
    clear hv
    go_wp2_with fail
    refine (cloneE _ _ _ xs _ (h.below hb1) (by omega)).mono ?_
    rintro e w2 ⟨v2, rfl, hown2, hb2⟩
    obtain ⟨A2, c2, rfl, hc2⟩ := own_slice hown2
    have hB2 := below_step hb1 hb2
    have c0 := (hb2.cell (p := ⟨w.heap.size, 0, none⟩) (World.block_lt_of_cell? w1 _ c0)).trans c0
    have c1 := (hb2.cell (p := ⟨w.heap.size, 1, none⟩) (World.block_lt_of_cell? w1 _ c1)).trans c1
    go_wp2_with fail
    refine (findEntryC _ _ _ t xs _ (Rd.own hown2) hff (by omega)).mono ?_
    rintro e w3 ⟨rfl, hb3⟩
    have hB3 := below_step hB2 hb3
    have hown3 := own_below hown2 hb3
    have c0 := (hb3.cell (p := ⟨w.heap.size, 0, none⟩) (World.block_lt_of_cell? w2 _ c0)).trans c0
    have c1 := (hb3.cell (p := ⟨w.heap.size, 1, none⟩) (World.block_lt_of_cell? w2 _ c1)).trans c1
    cases hfo : foundOf (enBelow t) (enIs t) xs
    · have HPL := Lib.hid (putL_new (p := p) hfo)
      have hba : Below w3.heap.size w3 (w3.alloc (.cells #[.string t, .int .i64 p] 31)) := (Below.refl _ _).alloc (Nat.le_refl _) _
      have hB4 := below_step hB3 hba
      have hown4 := own_below hown3 hba
      have hne4 : (Value.slice A2 n c2).ownBlock ≠ some w3.heap.size := fun e => by
        have := (hown3.lt _ e).2
        omega
      have hsz4 : w1.heap.size ≤ (w3.alloc (.cells #[.string t, .int .i64 p] 31)).heap.size := Nat.le_trans (Nat.le_trans hb2.size hb3.size) hba.size
      have hqn : posOf (enBelow t) xs ≤ n := by have := HL.out; omega
      have q := insertE w1.heap.size n c2 (posOf (enBelow t) xs) w3.heap.size A2 xs (t, p) _ hown4 (heap_alloc_new w3 _) hne4 hqn (by omega) hsz4
      clear hfo
      go_wp2_with fail
      refine q.mono ?_
      rintro e w5 ⟨v5, rfl, hown5, hg5⟩
      rw [← HPL.out] at hown5
      have hB5 : Below w.heap.size w w5 := hB4.grown hg5 hB4.size (fun k e => Nat.le_trans hb1.size (hown3.lt k e).1)
      obtain ⟨A5, c5, rfl, hc5⟩ := own_slice hown5
      have hr5 := Rd.own hown5
      have HLN : Hid ((putL xs t p).length = n + 1) := Lib.hid hr5.enLen
      clear q hown4 hba hB4 hne4 hsz4
      go_wp2_with fail
      refine (implEntriesValid _ _ _ (putL xs t p) _ hr5 HPX.out).mono ?_
      rintro e w6 ⟨rfl, hb6⟩
      have hB6 := below_step hB5 hb6
      have hown6 := own_base (own_below hown5 hb6) hb1.size
      cases hv2 : entriesV (putL xs t p)
      · have HP : Hid (putE xs t p = (xs, false)) := Lib.hid (by unfold putE; rw [HV.out, if_pos rfl, hv2, if_neg (by simp)])
        clear hv2
        go_wp2_with fail
        refine (cloneE _ _ _ xs _ (h.below hB6) (by omega)).mono ?_
        rintro e w7 ⟨v7, rfl, hown7, hb7⟩
        go_wp2_with fail
        refine bodyPost_ret (v := .tuple #[v7, .bool false]) (by simp [results, Try.results14, go_sem]) rfl ?_
        rw [HP.out]
        dsimp only
        rw [HL.out]
        exact ⟨_, rfl, own_base hown7 hB6.size, below_step hB6 hb7⟩
      · have HP : Hid (putE xs t p = (putL xs t p, true)) := Lib.hid (by unfold putE; rw [HV.out, if_pos rfl, hv2, if_pos rfl])
        clear hv2
        go_wp2_with fail
        refine bodyPost_ret (v := .tuple #[.slice A5 (n + 1) c5, .bool true]) (by simp [results, Try.results14, go_sem]) rfl ?_
        rw [HP.out]
        dsimp only
        rw [HLN.out]
        exact ⟨_, rfl, hown6, hB6⟩
    · obtain ⟨hq, hpl⟩ := putL_found (p := p) hfo
      have HPL := Lib.hid hpl
      clear hpl hfo
      rw [HL.out] at hq
      generalize posOf (enBelow t) xs = q at *
      obtain ⟨g, cap, e2, _, _⟩ := own_at2 hown3 (by omega)
      injection e2 with e2 _ e3
      subst e2 e3
      have hqi : (q : Int) < (n : Int) := by omega
      have hl3 := hown3.1
      obtain ⟨u0, hk0⟩ : ∃ u, w3.cell? ⟨g, q * 2, none⟩ = some u := ⟨_, (hown3.cellAt (q * 2) (by omega)).trans (List.getElem?_eq_getElem (by omega))⟩
      obtain ⟨u1, hk1⟩ : ∃ u, w3.cell? ⟨g, q * 2 + 1, none⟩ = some u := ⟨_, (hown3.cellAt (q * 2 + 1) (by omega)).trans (List.getElem?_eq_getElem (by omega))⟩
      have hf0 := hown3.frozenAt (q * 2)
      have hf1 := hown3.frozenAt (q * 2 + 1)
      have hst1 := hown3.stored (q * 2) (.string t)
      have hst2 := hst1.1.stored (q * 2 + 1) (.int .i64 p)
      have hset := ens_set xs q t p (by have := HL.out; omega)
      have hst3 := hst2.1
      rw [hset, ← HPL.out] at hst3
      have HO5 := Lib.hid hst3
      have HB5 : Hid (Below w.heap.size w ((w3.setCell ⟨g, q * 2, none⟩ (.string t)).setCell ⟨g, q * 2 + 1, none⟩ (.int .i64 p))) := Lib.hid (hB3.grown (grow2 hst1.2 hst2.2) hB3.size (fun k e => by
        injection e with e
        have := (hown3.lt g rfl).1
        have := hb1.size
        omega))
      clear hst1 hst2 hst3 hset hl3
      go_wp2_with fail
      have hown5 := HO5.out
      have hB5 := HB5.out
      generalize (w3.setCell ⟨g, q * 2, none⟩ (.string t)).setCell ⟨g, q * 2 + 1, none⟩ (.int .i64 p) = w5 at *
      have hr5 := Rd.own hown5
      have HLN : Hid ((putL xs t p).length = n) := Lib.hid hr5.enLen
      refine (implEntriesValid _ _ _ (putL xs t p) _ hr5 HPX.out).mono ?_
      rintro e w6 ⟨rfl, hb6⟩
      have hB6 := below_step hB5 hb6
      have hown6 := own_base (own_below hown5 hb6) hb1.size
      cases hv2 : entriesV (putL xs t p)
      · have HP : Hid (putE xs t p = (xs, false)) := Lib.hid (by unfold putE; rw [HV.out, if_pos rfl, hv2, if_neg (by simp)])
        clear hv2
        go_wp2_with fail
        refine (cloneE _ _ _ xs _ (h.below hB6) (by omega)).mono ?_
        rintro e w7 ⟨v7, rfl, hown7, hb7⟩
        go_wp2_with fail
        refine bodyPost_ret (v := .tuple #[v7, .bool false]) (by simp [results, Try.results14, go_sem]) rfl ?_
        rw [HP.out]
        dsimp only
        rw [HL.out]
        exact ⟨_, rfl, own_base hown7 hB6.size, below_step hB6 hb7⟩
      · have HP : Hid (putE xs t p = (putL xs t p, true)) := Lib.hid (by unfold putE; rw [HV.out, if_pos rfl, hv2, if_pos rfl])
        clear hv2
        go_wp2_with fail
        refine bodyPost_ret (v := .tuple #[.slice (some ⟨g, 0, none⟩) n c2, .bool true]) (by simp [results, Try.results14, go_sem]) rfl ?_
        rw [HP.out]
        dsimp only
        rw [HLN.out]
        exact ⟨_, rfl, hown6, hB6⟩
end Go.Proofs.Ytfjlocfaibbobab
