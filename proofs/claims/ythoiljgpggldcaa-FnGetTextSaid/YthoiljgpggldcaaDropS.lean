/- Contract of the specification's l10Drop: what it leaves is a store that is good. -/
import Derived.Test.YthoiljgpggldcaaSet
import Derived.Test.YthoiljgpggldcaaDrop
import Derived.Deep.QuietTactic
import Derived.BigQuiet
open Go.RowKit
namespace Go.Proofs.Ythoiljgpggldcaa
theorem dropE_small {ys : List (ByteArray × Int)} {t : ByteArray} (h : ∀ x ∈ ys, x.1.size ≤ maxLen) : ∀ x ∈ dropE ys t, x.1.size ≤ maxLen := fun x hx => by
  unfold dropE at hx
  split at hx
  · exact h x (List.mem_filter.1 hx).1
  · cases hx
set_option maxRecDepth 8000 in
set_option maxHeartbeats 6400000 in
theorem l10Drop (base : Nat) : ∀ (ps : List ByteArray) (B : Option Addr) (m d : Nat) (print : Int) (v : Value) (xs : List (Int × ByteArray)) (w : World), St w base v xs → Good xs → Rd w 1 B m (strs ps) → 1 ≤ m → m ≤ d → m ≤ 1048576 → (∀ p ∈ ps, p.size ≤ maxLen) →
    Calls Try.prog 42 #[v, .int .i64 print, .slice B m d] w (Stored w base) := by
  intro ps
  induction ps with
  | nil =>
    intro B m d print v xs w h hg hr hm1 hd hm hp
    have hm0 : m = 0 := by have := hr.strLen; simpa using this.symm
    omega
  | cons p0 ps ih =>
    intro B m d print v xs w h hg hr hm0 hd hm hp
    have hbw := h.lt hg
    have hml : m = ps.length + 1 := by have := hr.strLen; simpa using this.symm
    obtain ⟨b, off, nm, rfl, hbb, hpk, hc0⟩ := hr.strAt (show 0 < m by omega)
    obtain rfl : p0 = nm := by simpa using hpk
    have HT : Hid (Rd w 1 (some ⟨b, off + 1, none⟩) (m - 1) (strs ps)) := Lib.hid (by
      have := hr.strCut 1 (m - 1) (by omega)
      rw [List.drop_succ_cons, List.drop_zero, List.take_of_length_le (by omega)] at this
      exact this)
    have hc1 : w.cell? ⟨b, off, none⟩ = some (.string p0) := hc0
    have HP := Lib.hid hp
    have hp0 : p0.size ≤ maxLen := hp p0 (List.mem_cons_self ..)
    have IH := Lib.hid ih
    have HML := Lib.hid hml
    have hmI : (0 : Int) < (m : Int) := by omega
    clear hpk hc0 hml hp ih
    have HSt := Lib.hid h
    have HG := Lib.hid hg
    obtain ⟨g, c, rfl, h1, h2, h3, h4⟩ := h
    obtain ⟨hx1, hx2, hl1, hl2⟩ := hg.big
    have HX2 := Lib.hid hx2
    clear hg hx1 hx2
    generalize hlx : xs.length = n at *
    have hgs := getL_size (t := print) HX2.out
    go_enter Try.func42, Try.ntmps42
    go_wp2_with (go_at_call 22; refine (l4Get _ _ _ print xs _ h2 (by omega)).mono ?_; rintro e w2 ⟨rfl, rfl⟩)
    refine (specReadFolderB (getL print xs).1 _ hgs).mono ?_
    rintro e W0 ⟨v3, ys, ok, rfl, hR, hown, hB3, hbk3⟩
    obtain ⟨A3, c3, rfl, _⟩ := own_slice hown
    cases ok
    · have hz : ys.length = 0 := by rw [(hR.no rfl).1]; rfl
      clear hR
      generalize ys.length = z at *
      subst hz
      go_wp2_with fail
      go_loopw [13, 14] (fun q i wr => q = .int .i64 (-1) ∧ i = .int .i64 0 ∧ wr = W0) (fun _ _ _ => 0)
      case atStart => exact ⟨rfl, rfl, rfl⟩
      case round =>
        obtain ⟨rfl, rfl, hW⟩ := hrel
        obtain rfl := hW.symm
        go_wp2_with fail
        refine bodyPost_ret (v := .tuple #[.slice (some ⟨g, 0, none⟩) n c, .int .i64 (-1), .bool false]) (by simp [results, Try.results42, go_sem]) rfl ?_
        exact stored_of HG.out (HSt.out.keep hB3) hB3
    · have HY := Lib.hid (entries_small (hR.yes rfl).1)
      have hyl : ys.length ≤ 3 := hR.len
      have hbk3 := Lib.hid hbk3
      clear hR
      go_wp2_with fail
      go_loopw [13, 14] (fun q i wr => ∃ (k : Nat) (u : Int), q = .int .i64 u ∧ i = .int .i64 (k : Int) ∧ k ≤ ys.length ∧ Below W0.heap.size W0 wr) (fun _ i _ => ys.length - (intOf i).toNat)
      case atStart => exact ⟨0, -1, rfl, rfl, Nat.zero_le _, Below.refl _ _⟩
      case round =>
        obtain ⟨k, u, rfl, rfl, hk, hbr⟩ := hrel
        have hB := below_step hB3 hbr
        have hownr := own_below hown hbr
        have hcr := (hB.cell (p := ⟨b, off, none⟩) (World.block_lt_of_cell? _ _ hc1)).trans hc1
        by_cases hlt : k < ys.length
        · obtain ⟨b2, off2, s, p, rfl, hbb2, hyk, hd0, hd1⟩ := (Rd.own hownr).enAt hlt
          have hltI : (k : Int) < (ys.length : Int) := by omega
          clear hyk
          cases hst : (s.toList == p0.toList)
          all_goals
            have hne : (s.toList != p0.toList) = !(s.toList == p0.toList) := rfl
            rw [hst] at hne
            go_wp2_with fail
            go_quiet (fail)
            go_wp2_with fail
            go_roundw
            case rel => exact ⟨k + 1, _, rfl, by go_num, by omega, below_to hbr hbr.size (below_drewN _ _)⟩
            case measure => simp [intOf]; omega
        · have hltI : ¬ (k : Int) < (ys.length : Int) := by omega
          by_cases hu : u < 0
          · go_wp2_with fail
            refine bodyPost_ret (v := .tuple #[.slice (some ⟨g, 0, none⟩) n c, .int .i64 (-1), .bool false]) (by simp [results, Try.results42, go_sem]) rfl ?_
            exact stored_of HG.out (HSt.out.keep hB) hB
          · by_cases hm1 : 1 < m
            · have hm1I : (1 : Int) < (m : Int) := by omega
              go_wp2_with fail
              refine (IH.out _ _ _ u _ xs _ (HSt.out.keep hB) HG.out (HT.out.below hB) (by omega) (by omega) (by omega) (fun y hy => HP.out y (List.mem_cons_of_mem _ hy))).mono ?_
              rintro e w6 ⟨v6, xs6, q6, ok6, rfl, hg6, hs6, hb6⟩
              have hB6 := below_step hB hb6
              have hc6 := (hb6.cell (p := ⟨b, off, none⟩) (World.block_lt_of_cell? _ _ hcr)).trans hcr
              have HG6 := Lib.hid hg6
              have HS6 := Lib.hid hs6
              clear hg6 hs6
              have hown6 := own_below hownr hb6
              cases ok6
              · go_wp2_with fail
                refine bodyPost_ret (v := .tuple #[.slice (some ⟨g, 0, none⟩) n c, .int .i64 (-1), .bool false]) (by simp [results, Try.results42, go_sem]) rfl ?_
                exact stored_of HG.out (HSt.out.keep hB6) hB6
              · go_wp2_with fail
                refine (specDropEntry _ _ _ p0 ys _ (Rd.own hown6) HY.out (by omega)).mono ?_
                rintro e w7 ⟨v7, rfl, hown7, hb7⟩
                have hB7 := below_step hB6 hb7
                by_cases hq6 : q6 < 0
                · have hq7 : ¬ 0 ≤ q6 := by omega
                  have hzl7 : (dropE ys p0).length ≤ 4 := Nat.le_trans (dropE_len (xs := ys) (t := p0)) (by omega)
                  have HZ := Lib.hid (dropE_small (t := p0) HY.out)
                  have HS7 := Lib.hid (HS6.out.keep hb7)
                  generalize hzs : dropE ys p0 = zs at *
                  clear hzs
                  obtain ⟨A7, c7, rfl, _⟩ := own_slice hown7
                  by_cases hz : zs.length = 0
                  · have hz1 : ((zs.length : Int) == 0) = true := by rw [hz]; rfl
                    have hz2 : decide ((zs.length : Int) = 0) = true := decide_eq_true (by omega)
                    generalize zs.length = z at *
                    subst hz
                    go_wp2_with fail
                    refine bodyPost_ret (v := .tuple #[v6, .int .i64 (-1), .bool true]) (by simp [results, Try.results42, go_sem]) rfl ?_
                    exact stored_of HG6.out HS7.out hB7
                  · have hz1 : ((zs.length : Int) == 0) = false := beq_false_of_ne (by omega)
                    have hz2 : decide ((zs.length : Int) = 0) = false := decide_eq_false (by omega)
                    go_wp2_with fail
                    refine (specFolderText _ _ _ zs _ (Rd.own hown7) HZ.out (by omega)).mono ?_
                    rintro e w8 ⟨rfl, k8, hw8⟩
                    have hb8 : Below w7.heap.size w7 w8 := by rw [hw8]; exact below_drewN _ _
                    clear hw8
                    have hB8 := below_step hB7 hb8
                    have hfz : (folderT zs).size ≤ maxLen := Nat.le_trans (folderT_size zs) (by unfold maxLen; omega)
                    have HS8 := Lib.hid (HS7.out.keep hb8)
                    have hbw8 : base ≤ w8.heap.size := by have := hB8.size; omega
                    generalize folderT zs = fs at *
                    go_wp2_with fail
                    refine (goodPut base v6 fs _ _ HS8.out HG6.out hfz).mono ?_
                    rintro e w9 ⟨v9, ys9, q9, ok9, rfl, hg9, hs9, hb9⟩
                    have HF := Lib.hid (stored_of (q := q9) (ok := ok9) hg9 (hs9.mono hbw8) (below_step hB8 hb9))
                    clear hg9 hs9
                    go_wp2_with fail
                    refine bodyPost_ret (v := .tuple #[v9, .int .i64 q9, .bool ok9]) (by simp [results, Try.results42, go_sem]) rfl ?_
                    exact HF.out
                · have hq7 : 0 ≤ q6 := by omega
                  have hc7 := (hb7.cell (p := ⟨b, off, none⟩) (World.block_lt_of_cell? _ _ hc6)).trans hc6
                  have hown6b := own_below hown6 hb7
                  go_wp2_with fail
                  refine (specPutEntry _ _ _ p0 q6 ys _ hown6b hbk3.out HY.out hp0 (by omega)).mono ?_
                  have HS6 := Lib.hid (HS6.out.keep hb7)
                  have hB6 := hB7
                  clear hb7 hB7
                  rintro e w7 ⟨v7, rfl, hown7, hb7, hbk7⟩
                  have hB7 := below_step hB6 hb7
                  generalize (putE ys p0 q6).2 = fine at *
                  have hzl7 : ((putE ys p0 q6).1).length ≤ 4 := Nat.le_trans (putE_len (xs := ys) (t := p0) (p := q6)) (by omega)
                  have HZ := Lib.hid (putE_small (p := q6) HY.out hp0)
                  have HS7 := Lib.hid (HS6.out.keep hb7)
                  generalize hzs : (putE ys p0 q6).1 = zs at *
                  clear hzs
                  obtain ⟨A7, c7, rfl, _⟩ := own_slice hown7
                  by_cases hz : zs.length = 0
                  · have hz1 : ((zs.length : Int) == 0) = true := by rw [hz]; rfl
                    have hz2 : decide ((zs.length : Int) = 0) = true := decide_eq_true (by omega)
                    generalize zs.length = z at *
                    subst hz
                    go_wp2_with fail
                    refine bodyPost_ret (v := .tuple #[v6, .int .i64 (-1), .bool true]) (by simp [results, Try.results42, go_sem]) rfl ?_
                    exact stored_of HG6.out HS7.out hB7
                  · have hz1 : ((zs.length : Int) == 0) = false := beq_false_of_ne (by omega)
                    have hz2 : decide ((zs.length : Int) = 0) = false := decide_eq_false (by omega)
                    go_wp2_with fail
                    refine (specFolderText _ _ _ zs _ (Rd.own hown7) HZ.out (by omega)).mono ?_
                    rintro e w8 ⟨rfl, k8, hw8⟩
                    have hb8 : Below w7.heap.size w7 w8 := by rw [hw8]; exact below_drewN _ _
                    clear hw8
                    have hB8 := below_step hB7 hb8
                    have hfz : (folderT zs).size ≤ maxLen := Nat.le_trans (folderT_size zs) (by unfold maxLen; omega)
                    have HS8 := Lib.hid (HS7.out.keep hb8)
                    have hbw8 : base ≤ w8.heap.size := by have := hB8.size; omega
                    generalize folderT zs = fs at *
                    go_wp2_with fail
                    refine (goodPut base v6 fs _ _ HS8.out HG6.out hfz).mono ?_
                    rintro e w9 ⟨v9, ys9, q9, ok9, rfl, hg9, hs9, hb9⟩
                    have HF := Lib.hid (stored_of (q := q9) (ok := ok9) hg9 (hs9.mono hbw8) (below_step hB8 hb9))
                    clear hg9 hs9
                    go_wp2_with fail
                    refine bodyPost_ret (v := .tuple #[v9, .int .i64 q9, .bool ok9]) (by simp [results, Try.results42, go_sem]) rfl ?_
                    exact HF.out
            · have hm1I : ¬ (1 : Int) < (m : Int) := by omega
              go_wp2_with fail
              refine (specDropEntry _ _ _ p0 ys _ (Rd.own hownr) HY.out (by omega)).mono ?_
              rintro e w7 ⟨v7, rfl, hown7, hb7⟩
              have hB7 := below_step hB hb7
              have hzl7 : (dropE ys p0).length ≤ 4 := Nat.le_trans (dropE_len (xs := ys) (t := p0)) (by omega)
              have HZ := Lib.hid (dropE_small (t := p0) HY.out)
              have HS7 := Lib.hid (HSt.out.keep hB7)
              generalize hzs : dropE ys p0 = zs at *
              clear hzs
              obtain ⟨A7, c7, rfl, _⟩ := own_slice hown7
              by_cases hz : zs.length = 0
              · have hz1 : ((zs.length : Int) == 0) = true := by rw [hz]; rfl
                have hz2 : decide ((zs.length : Int) = 0) = true := decide_eq_true (by omega)
                generalize zs.length = z at *
                subst hz
                go_wp2_with fail
                refine bodyPost_ret (v := .tuple #[(.slice (some ⟨g, 0, none⟩) n c), .int .i64 (-1), .bool true]) (by simp [results, Try.results42, go_sem]) rfl ?_
                exact stored_of HG.out HS7.out hB7
              · have hz1 : ((zs.length : Int) == 0) = false := beq_false_of_ne (by omega)
                have hz2 : decide ((zs.length : Int) = 0) = false := decide_eq_false (by omega)
                go_wp2_with fail
                refine (specFolderText _ _ _ zs _ (Rd.own hown7) HZ.out (by omega)).mono ?_
                rintro e w8 ⟨rfl, k8, hw8⟩
                have hb8 : Below w7.heap.size w7 w8 := by rw [hw8]; exact below_drewN _ _
                clear hw8
                have hB8 := below_step hB7 hb8
                have hfz : (folderT zs).size ≤ maxLen := Nat.le_trans (folderT_size zs) (by unfold maxLen; omega)
                have HS8 := Lib.hid (HS7.out.keep hb8)
                have hbw8 : base ≤ w8.heap.size := by have := hB8.size; omega
                generalize folderT zs = fs at *
                go_wp2_with fail
                refine (goodPut base (.slice (some ⟨g, 0, none⟩) n c) fs _ _ HS8.out HG.out hfz).mono ?_
                rintro e w9 ⟨v9, ys9, q9, ok9, rfl, hg9, hs9, hb9⟩
                have HF := Lib.hid (stored_of (q := q9) (ok := ok9) hg9 (hs9.mono hbw8) (below_step hB8 hb9))
                clear hg9 hs9
                go_wp2_with fail
                refine bodyPost_ret (v := .tuple #[v9, .int .i64 q9, .bool ok9]) (by simp [results, Try.results42, go_sem]) rfl ?_
                exact HF.out
end Go.Proofs.Ythoiljgpggldcaa
