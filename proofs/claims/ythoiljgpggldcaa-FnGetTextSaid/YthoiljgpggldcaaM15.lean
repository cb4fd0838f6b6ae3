/- The texts WriteS Empty as one. -/
import Derived.Test.YthoiljgpggldcaaSet
import Derived.Test.YthoiljgpggldcaaM14
import Derived.Test.YthoiljgpggldcaaPutTS
import Derived.Test.YthoiljgpggldcaaM10
/- Contract of the specification's WriteAt: what it leaves is a store that is good. -/
open Go.RowKit
namespace Go.Proofs.Ythoiljgpggldcaa
theorem app_bk {v' : Value} {g n : Nat} (h : v'.ownBlock = (Value.slice (some ⟨g, 0, none⟩) 0 0).ownBlock ∨ v'.ownBlock = some n) : v'.ownBlock ≠ none := fun e => by rcases h with h | h <;> rw [h] at e <;> cases e
set_option maxRecDepth 8000 in
set_option maxHeartbeats 6400000 in
theorem specWriteAt (base : Nat) (v : Value) (root : Int) (path s : ByteArray) (xs : List (Int × ByteArray)) (w : World) (h : St w base v xs) (hg : Good xs) (hp : path.size ≤ 100) (hpt : (partsP path).2 = true) (hpz : (partsP path).1.length ≠ 0) (hpp : ∀ p ∈ (partsP path).1, p.size ≤ maxLen) (hs : s.size ≤ 100) (hc : contentV (bts s) = true) :
    Calls Try.prog 33 #[v, .int .i64 root, .string path, .string s] w (Stored w base) := by
  have HC := Lib.hid hc
  have hss : s.size ≤ maxLen := Nat.le_trans hs (by unfold maxLen; omega)
  have hfs : (fileT s).size ≤ maxLen := by
    rw [fileT_yes hc, ByteArray.size_append]
    show 1 + s.size ≤ maxLen
    unfold maxLen
    omega
  clear hc
  have hbw := h.lt hg
  have HSt := Lib.hid h
  have HG := Lib.hid hg
  have HV := Lib.hid hg.1
  obtain ⟨g, c, rfl, h1, h2, h3, h4⟩ := h
  obtain ⟨hx1, hx2, hl1, hl2⟩ := hg.big
  have HX1 := Lib.hid hx1
  have HX2 := Lib.hid hx2
  have HPP := Lib.hid hpp
  have HPT := Lib.hid hpt
  have hpl := partsP_len path
  have hpz1 : (((partsP path).1.length : Int) == 0) = false := beq_false_of_ne (by omega)
  have hpz2 : decide (((partsP path).1.length : Int) = 0) = false := decide_eq_false (by omega)
  clear hg hx1 hx2 hpp hpt
  generalize hlx : xs.length = n at *
  go_enter Try.func33, Try.ntmps33
  go_wp2_with fail
  refine (specPathParts path _ (by omega)).mono ?_
  rintro e w1 ⟨v1, rfl, hown1, hb1⟩
  rw [HPT.out]
  obtain ⟨A1, c1, rfl, hc1⟩ := own_slice hown1
  have HR1 := Lib.hid (Rd.own hown1)
  clear hown1
  generalize hps : (partsP path).1 = ps at *
  go_wp2_with fail
  refine (specStoreValid _ _ _ xs _ (h2.below hb1) HX1.out (by omega)).mono ?_
  rintro e w2 ⟨rfl, k2, hw2⟩
  have hb2 : Below w1.heap.size w1 w2 := by rw [hw2]; exact below_drewN _ _
  clear hw2
  have hB2 := below_step hb1 hb2
  have HS2 := Lib.hid (HSt.out.keep hB2)
  have hr2 := h2.below hB2
  have HR2 := Lib.hid (HR1.out.below hb2)
  have hwn : w.heap.size ≤ w2.heap.size := hB2.size
  rw [HV.out]
  go_wp2_with (first | (go_at_call 43; refine (specContentValid _ _ hss).mono ?_; rintro e w' ⟨rfl, rfl⟩; rw [HC.out]) | (at_builtin; refine wpList_appS _ rfl (.tmp 45) (.tmp 46) _ rfl w2.heap.size 28 2 24 _ Try.underlying23 pcs_info rfl (by omega) (by omega) _ 0 _ rfl (own_empty w2 28 2) _ _ _ (pcs xs) rfl (hr2.alloc _) (pcs_one _) (by omega) (by simp) ?_; intro v4 w4 hown4 hg4 hbk4; have hb4 : Below w2.heap.size w2 w4 := below_app ((Below.refl _ _).alloc (Nat.le_refl _) _) (own_empty w2 28 2) hg4 (by simp); rw [List.nil_append, Nat.zero_add] at hown4))
  have HS4 := Lib.hid ((St.own hown4 (app_bk hbk4)).mono (show base ≤ w2.heap.size by omega))
  have HSB4 := Lib.hid (HS2.out.keep hb4)
  have hB4 := below_step hB2 hb4
  have HR4 := Lib.hid (HR2.out.below hb4)
  have hr4 := h2.below hB4
  have hw4 : w.heap.size ≤ w4.heap.size := hB4.size
  clear hown4 hg4 hbk4
  have HGO : ∃ old there, Hid (getL root xs = (old, there)) := ⟨_, _, Lib.hid rfl⟩
  obtain ⟨old, there, HGO⟩ := HGO
  cases there
  · go_wp2_with (go_at_call 22; refine (l4Get _ _ _ root xs _ hr4 (by omega)).mono ?_; rintro e w5 ⟨rfl, rfl⟩; rw [HGO.out])
    refine bodyPost_ret (v := .tuple #[v4, .int .i64 root, .bool false]) (by simp [results, Try.results33, go_sem]) rfl ?_
    exact stored_of HG.out HS4.out hB4
  · go_wp2_with (first | (go_at_call 22; refine (l4Get _ _ _ root xs _ hr4 (by omega)).mono ?_; rintro e w5 ⟨rfl, rfl⟩; rw [HGO.out]) | (go_at_call 45; refine (specFileText s _ hss).mono ?_; rintro e w' ⟨rfl, rfl⟩) | (go_at_call 17; refine (specPrintOf _ _ hfs).mono ?_; rintro e w' ⟨rfl, rfl⟩))
    refine (l10Set (printP (fileT s)) base ps _ _ _ root _ xs _ HSB4.out HG.out HR4.out hc1 (by omega) HPP.out).mono ?_
    rintro e w6 ⟨v6, xs6, q6, ok6, rfl, hg6, hs6, hb6⟩
    have hB6 := below_step hB4 hb6
    have HS6 := Lib.hid (HS4.out.keep hb6)
    have HG6 := Lib.hid hg6
    have HT6 := Lib.hid hs6
    clear hg6 hs6
    cases ok6
    · go_wp2_with fail
      refine bodyPost_ret (v := .tuple #[v4, .int .i64 root, .bool false]) (by simp [results, Try.results33, go_sem]) rfl ?_
      exact stored_of HG.out HS6.out hB6
    · go_wp2_with (go_at_call 45; refine (specFileText s _ hss).mono ?_; rintro e w' ⟨rfl, rfl⟩)
      refine (goodPut base v6 (fileT s) xs6 _ HT6.out HG6.out hfs).mono ?_
      rintro e w9 ⟨v9, ys9, q9, ok9, rfl, hg9, hs9, hb9⟩
      have hB9 := below_step hB6 hb9
      have HS9 := Lib.hid (HS6.out.keep hb9)
      have HG9 := Lib.hid hg9
      cases ok9
      · clear hg9 hs9
        go_wp2_with fail
        refine bodyPost_ret (v := .tuple #[v4, .int .i64 root, .bool false]) (by simp [results, Try.results33, go_sem]) rfl ?_
        exact stored_of HG.out HS9.out hB9
      · obtain ⟨_, _, hl91, hl92⟩ := hg9.big
        obtain ⟨g9, c9, rfl, h91, h92, h93, h94⟩ := hs9
        have hw9 : w.heap.size ≤ w9.heap.size := hB9.size
        clear hg9
        generalize hly : ys9.length = n9 at *
        go_wp2_with (at_builtin; refine wpList_appS _ rfl (.tmp 85) (.tmp 86) _ rfl w9.heap.size 28 2 24 _ Try.underlying23 pcs_info rfl (by omega) (by omega) _ 0 _ rfl (own_empty w9 28 2) _ _ _ (pcs ys9) rfl (h92.alloc _) (pcs_one _) (by omega) (by simp) ?_; intro v7 w7 hown7 hg7 hbk7; have hb7 : Below w9.heap.size w9 w7 := below_app ((Below.refl _ _).alloc (Nat.le_refl _) _) (own_empty w9 28 2) hg7 (by simp); rw [List.nil_append, Nat.zero_add] at hown7)
        have HS7 := Lib.hid (St.own (xs := ys9) hown7 (app_bk hbk7))
        have hB7 := below_step hB9 hb7
        clear hown7 hg7 hbk7
        refine bodyPost_ret (v := .tuple #[v7, .int .i64 q6, .bool true]) (by simp [results, Try.results33, go_sem]) rfl ?_
        exact stored_of HG9.out (HS7.out.mono (by omega)) hB7
end Go.Proofs.Ythoiljgpggldcaa
/- Contracts of both EmptyRoot. -/
open Go.RowKit
namespace Go.Proofs.Ythoiljgpggldcaa
theorem folderT_nil_size : (folderT []).size ≤ maxLen := Nat.le_trans (folderT_size []) (by unfold maxLen; omega)
set_option maxRecDepth 8000 in
theorem specEmptyRoot (base n : Nat) (v : Value) (xs : List (Int × ByteArray)) (w : World) (h : w.ownsRow base 28 2 v n (pcs xs)) (hbk : v.ownBlock ≠ none) (hx : ∀ x ∈ xs, x.2.size ≤ maxLen) (hn : n ≤ 4194000) :
    Calls Try.prog 23 #[v] w fun e w' => ∃ v', e = .returned (.tuple #[v', .int .i64 (putT xs (folderT [])).2.1, .bool (putT xs (folderT [])).2.2]) ∧ w'.ownsRow w.heap.size 28 2 v' (putT xs (folderT [])).1.length (pcs (putT xs (folderT [])).1) ∧ Below w.heap.size w w' ∧ v'.ownBlock ≠ none := by
  have hb0 : Below w.heap.size w (w.alloc (.cells #[] 63)) := (Below.refl _ _).alloc (Nat.le_refl _) _
  go_enter Try.func23, Try.ntmps23
  go_wp2_with fail
  refine (specFolderText _ _ _ [] _ (Rd.own (own_empty w 63 2)) (fun _ h => by cases h) (by omega)).mono ?_
  rintro e w1 ⟨rfl, k1, hw1⟩
  have hb1 : Below w.heap.size w w1 := by rw [hw1]; exact below_to hb0 hb0.size (below_drewN _ _)
  clear hw1
  go_wp2_with fail
  refine (specPutText _ _ _ (folderT []) xs _ (own_below h hb1) hbk hx folderT_nil_size hn).mono ?_
  rintro e w2 ⟨v2, rfl, hown2, hb2, hbk2⟩
  have hown3 := own_base hown2 hb1.size
  have hB := below_step hb1 hb2
  clear hown2
  have HR : ∃ ys pr bb, Hid (putT xs (folderT []) = (ys, pr, bb)) := ⟨_, _, _, Lib.hid rfl⟩
  obtain ⟨ys, pr, bb, HR⟩ := HR
  rw [HR.out] at hown3 ⊢
  dsimp only at hown3 ⊢
  go_wp2_with fail
  refine bodyPost_ret (v := .tuple #[v2, .int .i64 pr, .bool bb]) (by simp [results, Try.results23, go_sem]) rfl ?_
  rw [HR.out]
  exact ⟨_, rfl, hown3, hB, hbk2⟩
end Go.Proofs.Ythoiljgpggldcaa
