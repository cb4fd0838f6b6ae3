/- Contracts of the specification's EmptyRoot and DropAt over stores that are good: what they leave is a store that is good. -/
import Derived.Test.YthoiljgpggldcaaDropS
import Derived.Test.YthoiljgpggldcaaM15
open Go.RowKit
namespace Go.Proofs.Ythoiljgpggldcaa
set_option maxRecDepth 8000 in
theorem goodEmpty (base : Nat) (v : Value) (xs : List (Int × ByteArray)) (w : World) (h : St w base v xs) (hg : Good xs) :
    Calls Try.prog 23 #[v] w (Stored w base) := by
  have hbw := h.lt hg
  have HSt := Lib.hid h
  have HG := Lib.hid hg
  clear h hg
  have hb0 : Below w.heap.size w (w.alloc (.cells #[] 63)) := (Below.refl _ _).alloc (Nat.le_refl _) _
  go_enter Try.func23, Try.ntmps23
  go_wp2_with fail
  refine (specFolderText _ _ _ [] _ (Rd.own (own_empty w 63 2)) (fun _ h => by cases h) (by omega)).mono ?_
  rintro e w1 ⟨rfl, k1, hw1⟩
  have hb1 : Below w.heap.size w w1 := by rw [hw1]; exact below_to hb0 hb0.size (below_drewN _ _)
  clear hw1
  have hbw1 : base ≤ w1.heap.size := Nat.le_trans hbw hb1.size
  go_wp2_with fail
  refine (goodPut base v (folderT []) xs _ (HSt.out.keep hb1) HG.out folderT_nil_size).mono ?_
  rintro e w2 ⟨v2, ys, pr, bb, rfl, hg2, hs2, hb2⟩
  have HF := Lib.hid (stored_of (q := pr) (ok := bb) hg2 (hs2.mono hbw1) (below_step hb1 hb2))
  clear hg2 hs2
  go_wp2_with fail
  refine bodyPost_ret (v := .tuple #[v2, .int .i64 pr, .bool bb]) (by simp [results, Try.results23, go_sem]) rfl ?_
  exact HF.out
set_option maxRecDepth 8000 in
set_option maxHeartbeats 6400000 in
theorem specDropAt (base : Nat) (v : Value) (root : Int) (path : ByteArray) (xs : List (Int × ByteArray)) (w : World) (h : St w base v xs) (hg : Good xs) (hp : path.size ≤ 100) (hpt : (partsP path).2 = true) (hpz : (partsP path).1.length ≠ 0) (hpp : ∀ p ∈ (partsP path).1, p.size ≤ maxLen) :
    Calls Try.prog 32 #[v, .int .i64 root, .string path] w (Stored w base) := by
  have hbw := h.lt hg
  have HSt := Lib.hid h
  have HG := Lib.hid hg
  have HV := Lib.hid hg.1
  obtain ⟨g, c, rfl, h1, h2, h3, h4⟩ := h
  obtain ⟨hx1, hx2, hl1, hl2⟩ := hg.big
  have HX1 := Lib.hid hx1
  have HX2 := Lib.hid hx2
  have HPP := Lib.hid hpp
  have HPT := Lib.hid hpt
  have hpl := partsP_len path
  have hpz1 : (((partsP path).1.length : Int) == 0) = false := beq_false_of_ne (by omega)
  have hpz2 : decide (((partsP path).1.length : Int) = 0) = false := decide_eq_false (by omega)
  clear hg hx1 hx2 hpp hpt
  generalize hlx : xs.length = n at *
  go_enter Try.func32, Try.ntmps32
  go_wp2_with fail
  refine (specPathParts path _ (by omega)).mono ?_
  rintro e w1 ⟨v1, rfl, hown1, hb1⟩
  rw [HPT.out]
  obtain ⟨A1, c1, rfl, hc1⟩ := own_slice hown1
  have HR1 := Lib.hid (Rd.own hown1)
  clear hown1
  generalize hps : (partsP path).1 = ps at *
  go_wp2_with fail
  refine (specStoreValid _ _ _ xs _ (h2.below hb1) HX1.out (by omega)).mono ?_
  rintro e w2 ⟨rfl, k2, hw2⟩
  have hb2 : Below w1.heap.size w1 w2 := by rw [hw2]; exact below_drewN _ _
  clear hw2
  have hB2 := below_step hb1 hb2
  have HS2 := Lib.hid (HSt.out.keep hB2)
  have hr2 := h2.below hB2
  have HR2 := Lib.hid (HR1.out.below hb2)
  have hwn : w.heap.size ≤ w2.heap.size := hB2.size
  rw [HV.out]
  go_wp2_with (at_builtin; refine wpList_appS _ rfl (.tmp 35) (.tmp 36) _ rfl w2.heap.size 28 2 24 _ Try.underlying23 pcs_info rfl (by omega) (by omega) _ 0 _ rfl (own_empty w2 28 2) _ _ _ (pcs xs) rfl (hr2.alloc _) (pcs_one _) (by omega) (by simp) ?_; intro v4 w4 hown4 hg4 hbk4; have hb4 : Below w2.heap.size w2 w4 := below_app ((Below.refl _ _).alloc (Nat.le_refl _) _) (own_empty w2 28 2) hg4 (by simp); rw [List.nil_append, Nat.zero_add] at hown4)
  have HS4 := Lib.hid ((St.own hown4 (app_bk hbk4)).mono (show base ≤ w2.heap.size by omega))
  have HSB4 := Lib.hid (HS2.out.keep hb4)
  have hB4 := below_step hB2 hb4
  have HR4 := Lib.hid (HR2.out.below hb4)
  have hr4 := h2.below hB4
  have hw4 : w.heap.size ≤ w4.heap.size := hB4.size
  clear hown4 hg4 hbk4
  go_wp2_with fail
  refine (l9Walk _ _ _ _ _ _ xs ps root _ hr4 HR4.out HX2.out (by omega) (by omega)).mono ?_
  rintro e w5 ⟨q5, ok5, rfl, _, hb5⟩
  have hB5 := below_step hB4 hb5
  have HS5 := Lib.hid (HS4.out.keep hb5)
  have HSB5 := Lib.hid (HSB4.out.keep hb5)
  have HR5 := Lib.hid (HR4.out.below hb5)
  cases ok5
  · go_wp2_with fail
    refine bodyPost_ret (v := .tuple #[v4, .int .i64 root, .bool false]) (by simp [results, Try.results32, go_sem]) rfl ?_
    exact stored_of HG.out HS5.out hB5
  · go_wp2_with fail
    refine (l10Drop base ps _ _ _ root _ xs _ HSB5.out HG.out HR5.out (by omega) hc1 (by omega) HPP.out).mono ?_
    rintro e w6 ⟨v6, xs6, q6, ok6, rfl, hg6, hs6, hb6⟩
    have hB6 := below_step hB5 hb6
    have HS6 := Lib.hid (HS5.out.keep hb6)
    have HG6 := Lib.hid hg6
    have HT6 := Lib.hid hs6
    clear hg6 hs6
    cases ok6
    · go_wp2_with fail
      refine bodyPost_ret (v := .tuple #[v4, .int .i64 root, .bool false]) (by simp [results, Try.results32, go_sem]) rfl ?_
      exact stored_of HG.out HS6.out hB6
    · by_cases hq6 : q6 < 0
      · go_wp2_with fail
        refine (goodEmpty base v6 xs6 _ HT6.out HG6.out).mono ?_
        rintro e w8 ⟨v8, xs8, q8, ok8, rfl, hg8, hs8, hb8⟩
        have hB8 := below_step hB6 hb8
        have HS8 := Lib.hid (HS6.out.keep hb8)
        have HG8 := Lib.hid hg8
        have HT8 := Lib.hid hs8
        clear hg8 hs8
        cases ok8
        · go_wp2_with fail
          refine bodyPost_ret (v := .tuple #[v4, .int .i64 root, .bool false]) (by simp [results, Try.results32, go_sem]) rfl ?_
          exact stored_of HG.out HS8.out hB8
        · obtain ⟨_, _, hl91, hl92⟩ := HG8.out.big
          obtain ⟨g9, c9, rfl, h91, h92, h93, h94⟩ := HT8.out
          have hw9 : w.heap.size ≤ w8.heap.size := hB8.size
          generalize hly : xs8.length = n9 at *
          go_wp2_with (at_builtin; refine wpList_appS _ rfl (.tmp 72) (.tmp 73) _ rfl w8.heap.size 28 2 24 _ Try.underlying23 pcs_info rfl (by omega) (by omega) _ 0 _ rfl (own_empty w8 28 2) _ _ _ (pcs xs8) rfl (h92.alloc _) (pcs_one _) (by omega) (by simp) ?_; intro v7 w7 hown7 hg7 hbk7; have hb7 : Below w8.heap.size w8 w7 := below_app ((Below.refl _ _).alloc (Nat.le_refl _) _) (own_empty w8 28 2) hg7 (by simp); rw [List.nil_append, Nat.zero_add] at hown7)
          have HS7 := Lib.hid (St.own (xs := xs8) hown7 (app_bk hbk7))
          have hB7 := below_step hB8 hb7
          clear hown7 hg7 hbk7
          refine bodyPost_ret (v := .tuple #[v7, .int .i64 q8, .bool true]) (by simp [results, Try.results32, go_sem]) rfl ?_
          exact stored_of HG8.out (HS7.out.mono (by omega)) hB7
      · obtain ⟨_, _, hl91, hl92⟩ := HG6.out.big
        obtain ⟨g9, c9, rfl, h91, h92, h93, h94⟩ := HT6.out
        have hw9 : w.heap.size ≤ w6.heap.size := hB6.size
        generalize hly : xs6.length = n9 at *
        go_wp2_with (at_builtin; refine wpList_appS _ rfl (.tmp 72) (.tmp 73) _ rfl w6.heap.size 28 2 24 _ Try.underlying23 pcs_info rfl (by omega) (by omega) _ 0 _ rfl (own_empty w6 28 2) _ _ _ (pcs xs6) rfl (h92.alloc _) (pcs_one _) (by omega) (by simp) ?_; intro v7 w7 hown7 hg7 hbk7; have hb7 : Below w6.heap.size w6 w7 := below_app ((Below.refl _ _).alloc (Nat.le_refl _) _) (own_empty w6 28 2) hg7 (by simp); rw [List.nil_append, Nat.zero_add] at hown7)
        have HS7 := Lib.hid (St.own (xs := xs6) hown7 (app_bk hbk7))
        have hB7 := below_step hB6 hb7
        clear hown7 hg7 hbk7
        refine bodyPost_ret (v := .tuple #[v7, .int .i64 q6, .bool true]) (by simp [results, Try.results32, go_sem]) rfl ?_
        exact stored_of HG6.out (HS7.out.mono (by omega)) hB7
end Go.Proofs.Ythoiljgpggldcaa
