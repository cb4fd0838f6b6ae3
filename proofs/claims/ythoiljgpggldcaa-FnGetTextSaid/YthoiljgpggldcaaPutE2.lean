/- Contract of the specification's PutEntry, one case. -/
import Derived.Test.YthoiljgpggldcaaM6
import Derived.Test.YthoiljgpggldcaaM1
import Derived.Test.YthoiljgpggldcaaPutD
open Go.RowKit
namespace Go.Proofs.Ythoiljgpggldcaa
set_option maxRecDepth 4000 in
set_option maxHeartbeats 20000000 in
theorem specPutEntry2 (g n c : Nat) (t : ByteArray) (p : Int) (xs : List (ByteArray × Int)) (w : World) (h : Rd w 2 (some ⟨g, 0, none⟩) n (ens xs)) (hc : n ≤ c) (hx : ∀ x ∈ xs, x.1.size ≤ maxLen) (ht : t.size ≤ maxLen) (hn : n ≤ 4194000) (hcm : c ≤ maxLen) (hcase : enHere t xs = true ∧ enPos t xs + 1 = c) :
    Calls Try.prog 52 #[.slice (some ⟨g, 0, none⟩) n c, .agg #[.string t, .int .i64 p]] w fun e w' => ∃ v, e = .returned (.tuple #[v, .bool (putE xs t p).2]) ∧ w'.ownsRow w.heap.size 63 2 v (putE xs t p).1.length (ens (putE xs t p).1) ∧ Below w.heap.size w w' ∧ v.ownBlock ≠ none := by
  have HL := Lib.hid h.enLen
  have HCS := Lib.hid hcase
  clear hcase
  have HX := Lib.hid hx
  clear hx
  unfold maxLen at hcm
  go_enter Try.func52, Try.ntmps52
  go_wp2_with fail
  have hb0 : Below w.heap.size w (w.alloc (.cells #[.string t, .int .i64 p] 63)) := (Below.refl _ _).alloc (Nat.le_refl _) _
  refine (specEntriesValid _ _ _ xs _ (h.below hb0) HX.out (by omega)).mono ?_
  rintro e w1 ⟨rfl, k1, hw1⟩
  have hc0 : w1.cell? ⟨w.heap.size, 0, none⟩ = some (.string t) := by subst hw1; exact cell_of_row _ _ 0 #[.string t, .int .i64 p] _ (0, 0) (heap_alloc_new w _)
  have hc1 : w1.cell? ⟨w.heap.size, 1, none⟩ = some (.int .i64 p) := by subst hw1; exact cell_of_row _ _ 1 #[.string t, .int .i64 p] _ (0, 0) (heap_alloc_new w _)
  have hb1 : Below w.heap.size w w1 := by subst hw1; exact below_to hb0 hb0.size (below_drewN _ _)
  have hs1 : w.heap.size < w1.heap.size := by subst hw1; show w.heap.size < (w.alloc _).heap.size; simp
  clear hw1 hb0
  cases hv : entriesV xs
  · have HP : Hid (putE xs t p = ([], false)) := Lib.hid (by unfold putE; rw [if_neg (by rw [hv]; simp)])
    clear hv
    go_wp2_with fail
    refine bodyPost_ret (v := .tuple #[.slice (some ⟨w1.heap.size, 0, none⟩) 0 0, .bool false]) (by simp [results, Try.results52, go_sem]) rfl ?_
    rw [HP.out]
    exact ⟨_, rfl, own_base (own_empty w1 63 2) hb1.size, hb1.alloc hb1.size _, fun e => by cases e⟩
  · have HF := Lib.hid (entries_falls hv t)
    have hle := posOf_le (enBelow t) xs
    have HV := Lib.hid hv
    clear hv
    have hr := h.below hb1
    go_wp2_with fail
    go_loopw [6] (fun i wr => ∃ k : Nat, i = .int .i64 (k : Int) ∧ k ≤ n ∧ Hid (∀ j x, j < k → xs[j]? = some x → enBelow t x = true) ∧ ∃ q, wr = w1.drewN q) (fun i _ => n - (intOf i).toNat)
    case atStart => exact ⟨0, rfl, Nat.zero_le _, Lib.hid (fun j _ hj => by omega), 0, rfl⟩
    case round =>
      obtain ⟨k, rfl, hk, HB, q, hwr⟩ := hrel
      have hrr : Rd wr 2 (some ⟨g, 0, none⟩) n (ens xs) := by rw [hwr]; exact hr.drewN q
      have hcr0 : wr.cell? ⟨w.heap.size, 0, none⟩ = some (.string t) := by rw [hwr]; exact hc0
      have hcr1 : wr.cell? ⟨w.heap.size, 1, none⟩ = some (.int .i64 p) := by rw [hwr]; exact hc1
      have hbr : Below w.heap.size w wr := by rw [hwr]; exact below_to hb1 hb1.size (below_drewN _ _)
      have HW := Lib.hid hwr
      clear hwr
      have hwr : w.heap.size < wr.heap.size := by rw [HW.out]; exact hs1
      by_cases hlt : k < n
      · obtain ⟨bb, off, s, y, e1, _, hxk, hd0, hd1⟩ := hrr.enAt hlt
        injection e1 with e1
        injection e1 with e1 e2
        subst e1 e2
        rw [Nat.zero_add] at hd0 hd1
        cases hbl : enBelow t (s, y)
        · have hbl' : Go.Op.bytesLess s.toList t.toList = false := hbl
          have HE := Lib.hid (show enPos t xs = k from posOf_is (by rw [HL.out]; omega) HB.out (fun x hxx => by rw [hxk] at hxx; obtain rfl := Option.some.inj hxx; exact hbl))
          have HXK := Lib.hid hxk
          clear hxk hbl
          have hkn' : (k : Int) < (n : Int) := by omega
          have hkn2 : decide (k < n) = true := decide_eq_true hlt
          have hkn3 : decide ((k : Int) < (n : Int)) = true := decide_eq_true hkn'
          have hk0 : (0 : Int) ≤ (k : Int) := Int.natCast_nonneg _
          have hkn : (k : Int) ≤ (n : Int) := by omega
          have hnc : (n : Int) ≤ (c : Int) := by omega
          have hkc : (k : Int) ≤ (c : Int) := by omega
          by_cases hst : s = t
          · subst hst
            have heq : (s.toList == s.toList) = true := by simp
            have HH : Hid (enHere s xs = true) := Lib.hid (by unfold enHere; rw [HE.out, HXK.out]; exact decide_eq_true rfl)
            have hk1 : (k : Int) + 1 ≤ (n : Int) := by omega
            have hk2 : (0 : Int) ≤ (k : Int) + 1 := by omega
            have hk3 : (k : Int) + 1 ≤ (c : Int) := by omega
            by_cases hck : k + 1 = c
            · have hnc2 : n = k + 1 := by omega
              subst hnc2
              subst hck
              have hkk1 : (k : Int) ≤ (k : Int) + 1 := by omega
              have hkk2 : decide ((k : Int) < (k : Int) + 1) = true := decide_eq_true (by omega)
              clear hkn hnc hkc hk1 hk3 hkn' hlt hc
              go_wp2_with fail
              go_quiet (fail)
              obtain ⟨m1, hm1⟩ : ∃ m, wr.drewN nq = wr.drewN m := ⟨nq, rfl⟩
              rw [hm1]
              clear hm1
              go_wp2_with fail
              go_quiet (fail)
              have hb9 : Below w.heap.size w ((wr.drewN m1).drewN nq) := below_to hbr hbr.size (below_step (below_drewN wr m1) (below_drewN _ nq))
              have HT : Hid (∀ W : World, Below ((wr.drewN m1).drewN nq).heap.size ((wr.drewN m1).drewN nq) W → Rd W 2 (some ⟨g, 0, none⟩) k (ens (xs.take k))) := Lib.hid (fun W hW => by
                have := (((hrr.drewN m1).drewN nq).below hW).enCut 0 k (by omega)
                rw [List.drop_zero, Nat.zero_mul, Nat.add_zero] at this
                exact this)
              have HYR : Hid (∀ W : World, Below ((wr.drewN m1).drewN nq).heap.size ((wr.drewN m1).drewN nq) W → Rd W 2 (some ⟨g, 0, none⟩) (0) (ens (xs.drop (k + 1)))) := Lib.hid (fun W hW => ⟨by rw [ens_length, List.length_drop, HL.out]; omega, fun h => by omega⟩)
              have HCC : Hid (∀ W : World, Below ((wr.drewN m1).drewN nq).heap.size ((wr.drewN m1).drewN nq) W → W.cell? ⟨w.heap.size, 0, none⟩ = some (.string s) ∧ W.cell? ⟨w.heap.size, 1, none⟩ = some (.int .i64 p)) := Lib.hid (fun W hW => ⟨(hW.cell (p := ⟨w.heap.size, 0, none⟩) hwr).trans hcr0, (hW.cell (p := ⟨w.heap.size, 1, none⟩) hwr).trans hcr1⟩)
              generalize (wr.drewN m1).drewN nq = w9 at *
              go_wp2_with fail
              refine wp_region_any (by kernel_rfl) (wpAny_inv (fun l a wr => ∃ v50 v51 v52 v53 v54 v55 v56 v57 v58 v59 v8, a = { tmps := #[_, _, _, _, _, _, _, _, v8, _, _, _, _, _, _, _, _, _, _, _, _, _, _, _, _, _, _, _, _, _, _, _, _, _, _, _, _, _, _, _, _, _, _, _, _, _, _, _, _, _, v50, v51, v52, v53, v54, v55, v56, v57, v58, v59, _, _, _, _, _, _, _], defers := [] } ∧ PutF w9 g (k + 1) (k + 1) k (0) (.slice (some ⟨g, 0, none⟩) (0) (0)) s p (xs.take k) (xs.drop (k + 1)) l v50 v51 v52 v53 v54 v55 v56 v57 v58 v59 v8 wr) ?step1 ?done1 _ _ _ _ (by decide) ⟨_, _, _, _, _, _, _, _, _, _, _, rfl, rfl, (below_drewN _ 1), ⟨fun h => by simp at h, fun h => by simp at h, fun h => by simp at h⟩, fun h => by simp at h, fun h => by simp at h, fun h => by simp at h, fun h => by simp at h, fun h => by simp at h, fun h => by simp at h, fun h => by simp at h, fun h => by simp at h, fun h => by simp at h, fun h => by simp at h, fun h => by simp at h⟩)
              case step1 =>
                rintro l a wr i ⟨v50, v51, v52, v53, v54, v55, v56, v57, v58, v59, v8, rfl, hC⟩ hi
                obtain ⟨h0, o, ho, hdep⟩ := mem_ready.1 hi
                have hi11 := (Array.getElem?_eq_some_iff.1 ho).1
                have hcase : i = 0 ∨ i = 1 ∨ i = 2 ∨ i = 3 ∨ i = 4 ∨ i = 5 ∨ i = 6 ∨ i = 7 ∨ i = 8 ∨ i = 9 ∨ i = 10 := by simp at hi11; omega
                clear hi hi11
                rcases hcase with rfl | rfl | rfl | rfl | rfl | rfl | rfl | rfl | rfl | rfl | rfl
                all_goals
                  obtain rfl := Option.some.inj ho
                  clear ho
                · refine wpOp_at rfl rfl ?_
                  unfold Oper.wp
                  go_simp
                  exact ⟨_, _, _, _, _, _, _, _, _, _, _, ⟨rfl, rfl, rfl, rfl, rfl, rfl, rfl, rfl, rfl, rfl, rfl⟩, hC.s0 (own_empty wr 63 2) ((Below.refl _ _).alloc (Nat.le_refl _) _)⟩
                · refine wpOp_at rfl rfl ?_
                  unfold Oper.wp
                  go_simp
                  exact ⟨_, _, _, _, _, _, _, _, _, _, _, ⟨rfl, rfl, rfl, rfl, rfl, rfl, rfl, rfl, rfl, rfl, rfl⟩, hC.s1 rfl⟩
                · refine wpOp_at rfl rfl ?_
                  unfold Oper.wp
                  go_simp
                  exact ⟨_, _, _, _, _, _, _, _, _, _, _, ⟨rfl, rfl, rfl, rfl, rfl, rfl, rfl, rfl, rfl, rfl, rfl⟩, hC.s2 rfl⟩
                · refine wpOp_at rfl rfl ?_
                  obtain ⟨_, hB, _, a0, a1, a2, a3, a4, a5, a6, a7, a8, a9, a10⟩ := id hC
                  obtain rfl := a1 (hdep ⟨1, .data⟩ (by simp) rfl)
                  obtain rfl := a2 (hdep ⟨2, .data⟩ (by simp) rfl)
                  clear a0 a1 a2 a3 a4 a5 a6 a7 a8 a9 a10
                  unfold Oper.wp
                  go_simp
                  exact ⟨_, _, _, _, _, _, _, _, _, _, _, ⟨rfl, rfl, rfl, rfl, rfl, rfl, rfl, rfl, rfl, rfl, rfl⟩, hC.s3 rfl⟩
                · refine wpOp_at rfl rfl ?_
                  obtain ⟨_, hB, _, a0, a1, a2, a3, a4, a5, a6, a7, a8, a9, a10⟩ := id hC
                  obtain rfl := a3 (hdep ⟨3, .data⟩ (by simp) rfl)
                  have hown := a0 (hdep ⟨0, .data⟩ (by simp) rfl) (flo h0)
                  have hrd := HT.out wr hB
                  clear a0 a1 a2 a3 a4 a5 a6 a7 a8 a9 a10
                  refine oper_appS wr rfl (.tmp 50) (.tmp 53) _ rfl w9.heap.size 63 2 24 _ Try.underlying53 ens_info rfl (by omega) (by omega) v50 0 _ rfl hown _ _ _ _ rfl hrd (ens_one _) (by omega) hB.size ?_
                  intro v' w' hown' hg' hub'
                  rw [List.nil_append, Nat.zero_add] at hown'
                  have HC := Lib.hid (hC.s4 (hdep ⟨0, .data⟩ (by simp) rfl) (flo h0) hown' hg' hub')
                  clear hown hown' hg' hub' hrd
                  go_simp
                  exact ⟨_, _, _, _, _, _, _, _, _, _, _, ⟨rfl, rfl, rfl, rfl, rfl, rfl, rfl, rfl, rfl, rfl, rfl⟩, HC.out⟩
                · refine wpOp_at rfl rfl ?_
                  obtain ⟨_, hB, _, a0, a1, a2, a3, a4, a5, a6, a7, a8, a9, a10⟩ := id hC
                  have hd0 := (HCC.out wr hB).1
                  have hd1 := (HCC.out wr hB).2
                  clear a0 a1 a2 a3 a4 a5 a6 a7 a8 a9 a10
                  unfold Oper.wp
                  go_simp
                  exact ⟨_, _, _, _, _, _, _, _, _, _, _, ⟨rfl, rfl, rfl, rfl, rfl, rfl, rfl, rfl, rfl, rfl, rfl⟩, hC.s5 rfl⟩
                · refine wpOp_at rfl rfl ?_
                  obtain ⟨_, hB, _, a0, a1, a2, a3, a4, a5, a6, a7, a8, a9, a10⟩ := id hC
                  obtain rfl := a5 (hdep ⟨5, .data⟩ (by simp) rfl)
                  clear a0 a1 a2 a3 a4 a5 a6 a7 a8 a9 a10
                  have HC := Lib.hid (hC.s6 (w' := wr.alloc (.cells #[.string s, .int .i64 p] 63)) rfl (cell_of_row _ _ 0 #[.string s, .int .i64 p] _ (0, 0) (heap_alloc_new wr _)) (cell_of_row _ _ 1 #[.string s, .int .i64 p] _ (0, 0) (heap_alloc_new wr _)) ((Below.refl _ _).alloc (Nat.le_refl _) _))
                  unfold Oper.wp
                  go_simp
                  exact ⟨_, _, _, _, _, _, _, _, _, _, _, ⟨rfl, rfl, rfl, rfl, rfl, rfl, rfl, rfl, rfl, rfl, rfl⟩, HC.out⟩
                · refine wpOp_at rfl rfl ?_
                  obtain ⟨_, hB, _, a0, a1, a2, a3, a4, a5, a6, a7, a8, a9, a10⟩ := id hC
                  have hown := a4 (hdep ⟨4, .data⟩ (by simp) rfl) (flo h0)
                  obtain ⟨gb, rfl, _, hd0, hd1, _⟩ := a6 (hdep ⟨6, .data⟩ (by simp) rfl) (flo h0)
                  have hrd := rd_pair hd0 hd1
                  clear a0 a1 a2 a3 a4 a5 a6 a7 a8 a9 a10 hd0 hd1
                  refine oper_appS wr rfl (.tmp 54) (.tmp 56) _ rfl w9.heap.size 63 2 24 _ Try.underlying53 ens_info rfl (by omega) (by omega) v54 k _ rfl hown _ 1 1 _ rfl hrd (ens_one _) (by omega) hB.size ?_
                  intro v' w' hown' hg' _
                  rw [← ens_append] at hown'
                  have HC := Lib.hid (hC.s7 (hdep ⟨4, .data⟩ (by simp) rfl) (flo h0) hown' hg')
                  clear hown hown' hg' hrd
                  go_simp
                  exact ⟨_, _, _, _, _, _, _, _, _, _, _, ⟨rfl, rfl, rfl, rfl, rfl, rfl, rfl, rfl, rfl, rfl, rfl⟩, HC.out⟩
                · refine wpOp_at rfl rfl ?_
                  unfold Oper.wp
                  go_simp
                  exact ⟨_, _, _, _, _, _, _, _, _, _, _, ⟨rfl, rfl, rfl, rfl, rfl, rfl, rfl, rfl, rfl, rfl, rfl⟩, hC.s8 rfl⟩
                · refine wpOp_at rfl rfl ?_
                  obtain ⟨_, hB, _, a0, a1, a2, a3, a4, a5, a6, a7, a8, a9, a10⟩ := id hC
                  have hown := a7 (hdep ⟨7, .data⟩ (by simp) rfl) (flo h0)
                  obtain rfl := a8 (hdep ⟨8, .data⟩ (by simp) rfl)
                  have hrd := HYR.out wr hB
                  have hcl := hC.2.2.1
                  clear a0 a1 a2 a3 a4 a5 a6 a7 a8 a9 a10
                  refine oper_appS wr rfl (.tmp 57) (.tmp 58) _ rfl w9.heap.size 63 2 24 _ Try.underlying53 ens_info rfl (by omega) (by omega) v57 (k + 1) _ rfl hown _ _ _ _ rfl hrd (ens_one _) (by omega) hB.size ?_
                  intro v' w' hown' hg' _
                  rw [← ens_append] at hown'
                  have HC := Lib.hid (hC.s9 (hcl.1 (hdep ⟨7, .data⟩ (by simp) rfl)) (hdep ⟨7, .data⟩ (by simp) rfl) (flo h0) hown' hg')
                  clear hown hown' hg' hrd hcl
                  go_simp
                  exact ⟨_, _, _, _, _, _, _, _, _, _, _, ⟨rfl, rfl, rfl, rfl, rfl, rfl, rfl, rfl, rfl, rfl, rfl⟩, HC.out⟩
                · refine wpOp_at rfl rfl ?_
                  obtain ⟨_, hB, _, a0, a1, a2, a3, a4, a5, a6, a7, a8, a9, a10⟩ := id hC
                  have HC := Lib.hid (hC.s10 (hdep ⟨9, .data⟩ (by simp) rfl) (a9 (hdep ⟨9, .data⟩ (by simp) rfl)))
                  clear a0 a1 a2 a3 a4 a5 a6 a7 a8 a9 a10
                  unfold Oper.wp
                  go_simp
                  exact ⟨_, _, _, _, _, _, _, _, _, _, _, ⟨rfl, rfl, rfl, rfl, rfl, rfl, rfl, rfl, rfl, rfl, rfl⟩, HC.out⟩
              case done1 =>
                rintro l a wr ⟨v50, v51, v52, v53, v54, v55, v56, v57, v58, v59, v8, rfl, hC⟩ hr
                have hls := hC.1
                have key : ∀ i o, (_ : Array Oper)[i]? = some o → (∀ e ∈ o.after, Region.binds .any e = true → l.getD e.on false = true) → l.getD i true = true := fun i o ho hd => by
                  cases h : l.getD i true
                  · have hm := mem_ready.2 ⟨h, o, ho, hd⟩
                    rw [hr] at hm
                    cases hm
                  · rfl
                have hsz : ∀ i, i < 11 → l.getD i true = true → l.getD i false = true := fun i hi h => by
                  rw [Array.getD_eq_getD_getElem?, Array.getElem?_eq_getElem (by omega)] at h ⊢
                  exact h
                have q0 := hsz 0 (by omega) (key 0 _ rfl (by simp))
                have q1 := hsz 1 (by omega) (key 1 _ rfl (by simp))
                have q2 := hsz 2 (by omega) (key 2 _ rfl (by simp))
                have q3 := hsz 3 (by omega) (key 3 _ rfl (by intro e he _; simp at he; try (first | (subst he; assumption) | (rcases he with rfl | rfl <;> assumption) | (rcases he with rfl | rfl | rfl <;> assumption) | (rcases he with rfl | rfl | rfl | rfl <;> assumption) | (rcases he with rfl | rfl | rfl | rfl | rfl <;> assumption) | (rcases he with rfl | rfl | rfl | rfl | rfl | rfl <;> assumption) | (rcases he with rfl | rfl | rfl | rfl | rfl | rfl | rfl <;> assumption) | (rcases he with rfl | rfl | rfl | rfl | rfl | rfl | rfl | rfl <;> assumption) | (rcases he with rfl | rfl | rfl | rfl | rfl | rfl | rfl | rfl | rfl <;> assumption) | (rcases he with rfl | rfl | rfl | rfl | rfl | rfl | rfl | rfl | rfl | rfl <;> assumption) | (rcases he with rfl | rfl | rfl | rfl | rfl | rfl | rfl | rfl | rfl | rfl | rfl <;> assumption) | (rcases he with rfl | rfl | rfl | rfl | rfl | rfl | rfl | rfl | rfl | rfl | rfl | rfl <;> assumption) | (rcases he with rfl | rfl | rfl | rfl | rfl | rfl | rfl | rfl | rfl | rfl | rfl | rfl | rfl <;> assumption))))
                have q4 := hsz 4 (by omega) (key 4 _ rfl (by intro e he _; simp at he; try (first | (subst he; assumption) | (rcases he with rfl | rfl <;> assumption) | (rcases he with rfl | rfl | rfl <;> assumption) | (rcases he with rfl | rfl | rfl | rfl <;> assumption) | (rcases he with rfl | rfl | rfl | rfl | rfl <;> assumption) | (rcases he with rfl | rfl | rfl | rfl | rfl | rfl <;> assumption) | (rcases he with rfl | rfl | rfl | rfl | rfl | rfl | rfl <;> assumption) | (rcases he with rfl | rfl | rfl | rfl | rfl | rfl | rfl | rfl <;> assumption) | (rcases he with rfl | rfl | rfl | rfl | rfl | rfl | rfl | rfl | rfl <;> assumption) | (rcases he with rfl | rfl | rfl | rfl | rfl | rfl | rfl | rfl | rfl | rfl <;> assumption) | (rcases he with rfl | rfl | rfl | rfl | rfl | rfl | rfl | rfl | rfl | rfl | rfl <;> assumption) | (rcases he with rfl | rfl | rfl | rfl | rfl | rfl | rfl | rfl | rfl | rfl | rfl | rfl <;> assumption) | (rcases he with rfl | rfl | rfl | rfl | rfl | rfl | rfl | rfl | rfl | rfl | rfl | rfl | rfl <;> assumption))))
                have q5 := hsz 5 (by omega) (key 5 _ rfl (by intro e he _; simp at he; try (first | (subst he; assumption) | (rcases he with rfl | rfl <;> assumption) | (rcases he with rfl | rfl | rfl <;> assumption) | (rcases he with rfl | rfl | rfl | rfl <;> assumption) | (rcases he with rfl | rfl | rfl | rfl | rfl <;> assumption) | (rcases he with rfl | rfl | rfl | rfl | rfl | rfl <;> assumption) | (rcases he with rfl | rfl | rfl | rfl | rfl | rfl | rfl <;> assumption) | (rcases he with rfl | rfl | rfl | rfl | rfl | rfl | rfl | rfl <;> assumption) | (rcases he with rfl | rfl | rfl | rfl | rfl | rfl | rfl | rfl | rfl <;> assumption) | (rcases he with rfl | rfl | rfl | rfl | rfl | rfl | rfl | rfl | rfl | rfl <;> assumption) | (rcases he with rfl | rfl | rfl | rfl | rfl | rfl | rfl | rfl | rfl | rfl | rfl <;> assumption) | (rcases he with rfl | rfl | rfl | rfl | rfl | rfl | rfl | rfl | rfl | rfl | rfl | rfl <;> assumption) | (rcases he with rfl | rfl | rfl | rfl | rfl | rfl | rfl | rfl | rfl | rfl | rfl | rfl | rfl <;> assumption))))
                have q6 := hsz 6 (by omega) (key 6 _ rfl (by intro e he _; simp at he; try (first | (subst he; assumption) | (rcases he with rfl | rfl <;> assumption) | (rcases he with rfl | rfl | rfl <;> assumption) | (rcases he with rfl | rfl | rfl | rfl <;> assumption) | (rcases he with rfl | rfl | rfl | rfl | rfl <;> assumption) | (rcases he with rfl | rfl | rfl | rfl | rfl | rfl <;> assumption) | (rcases he with rfl | rfl | rfl | rfl | rfl | rfl | rfl <;> assumption) | (rcases he with rfl | rfl | rfl | rfl | rfl | rfl | rfl | rfl <;> assumption) | (rcases he with rfl | rfl | rfl | rfl | rfl | rfl | rfl | rfl | rfl <;> assumption) | (rcases he with rfl | rfl | rfl | rfl | rfl | rfl | rfl | rfl | rfl | rfl <;> assumption) | (rcases he with rfl | rfl | rfl | rfl | rfl | rfl | rfl | rfl | rfl | rfl | rfl <;> assumption) | (rcases he with rfl | rfl | rfl | rfl | rfl | rfl | rfl | rfl | rfl | rfl | rfl | rfl <;> assumption) | (rcases he with rfl | rfl | rfl | rfl | rfl | rfl | rfl | rfl | rfl | rfl | rfl | rfl | rfl <;> assumption))))
                have q7 := hsz 7 (by omega) (key 7 _ rfl (by intro e he _; simp at he; try (first | (subst he; assumption) | (rcases he with rfl | rfl <;> assumption) | (rcases he with rfl | rfl | rfl <;> assumption) | (rcases he with rfl | rfl | rfl | rfl <;> assumption) | (rcases he with rfl | rfl | rfl | rfl | rfl <;> assumption) | (rcases he with rfl | rfl | rfl | rfl | rfl | rfl <;> assumption) | (rcases he with rfl | rfl | rfl | rfl | rfl | rfl | rfl <;> assumption) | (rcases he with rfl | rfl | rfl | rfl | rfl | rfl | rfl | rfl <;> assumption) | (rcases he with rfl | rfl | rfl | rfl | rfl | rfl | rfl | rfl | rfl <;> assumption) | (rcases he with rfl | rfl | rfl | rfl | rfl | rfl | rfl | rfl | rfl | rfl <;> assumption) | (rcases he with rfl | rfl | rfl | rfl | rfl | rfl | rfl | rfl | rfl | rfl | rfl <;> assumption) | (rcases he with rfl | rfl | rfl | rfl | rfl | rfl | rfl | rfl | rfl | rfl | rfl | rfl <;> assumption) | (rcases he with rfl | rfl | rfl | rfl | rfl | rfl | rfl | rfl | rfl | rfl | rfl | rfl | rfl <;> assumption))))
                have q8 := hsz 8 (by omega) (key 8 _ rfl (by intro e he _; simp at he; try (first | (subst he; assumption) | (rcases he with rfl | rfl <;> assumption) | (rcases he with rfl | rfl | rfl <;> assumption) | (rcases he with rfl | rfl | rfl | rfl <;> assumption) | (rcases he with rfl | rfl | rfl | rfl | rfl <;> assumption) | (rcases he with rfl | rfl | rfl | rfl | rfl | rfl <;> assumption) | (rcases he with rfl | rfl | rfl | rfl | rfl | rfl | rfl <;> assumption) | (rcases he with rfl | rfl | rfl | rfl | rfl | rfl | rfl | rfl <;> assumption) | (rcases he with rfl | rfl | rfl | rfl | rfl | rfl | rfl | rfl | rfl <;> assumption) | (rcases he with rfl | rfl | rfl | rfl | rfl | rfl | rfl | rfl | rfl | rfl <;> assumption) | (rcases he with rfl | rfl | rfl | rfl | rfl | rfl | rfl | rfl | rfl | rfl | rfl <;> assumption) | (rcases he with rfl | rfl | rfl | rfl | rfl | rfl | rfl | rfl | rfl | rfl | rfl | rfl <;> assumption) | (rcases he with rfl | rfl | rfl | rfl | rfl | rfl | rfl | rfl | rfl | rfl | rfl | rfl | rfl <;> assumption))))
                have q9 := hsz 9 (by omega) (key 9 _ rfl (by intro e he _; simp at he; try (first | (subst he; assumption) | (rcases he with rfl | rfl <;> assumption) | (rcases he with rfl | rfl | rfl <;> assumption) | (rcases he with rfl | rfl | rfl | rfl <;> assumption) | (rcases he with rfl | rfl | rfl | rfl | rfl <;> assumption) | (rcases he with rfl | rfl | rfl | rfl | rfl | rfl <;> assumption) | (rcases he with rfl | rfl | rfl | rfl | rfl | rfl | rfl <;> assumption) | (rcases he with rfl | rfl | rfl | rfl | rfl | rfl | rfl | rfl <;> assumption) | (rcases he with rfl | rfl | rfl | rfl | rfl | rfl | rfl | rfl | rfl <;> assumption) | (rcases he with rfl | rfl | rfl | rfl | rfl | rfl | rfl | rfl | rfl | rfl <;> assumption) | (rcases he with rfl | rfl | rfl | rfl | rfl | rfl | rfl | rfl | rfl | rfl | rfl <;> assumption) | (rcases he with rfl | rfl | rfl | rfl | rfl | rfl | rfl | rfl | rfl | rfl | rfl | rfl <;> assumption) | (rcases he with rfl | rfl | rfl | rfl | rfl | rfl | rfl | rfl | rfl | rfl | rfl | rfl | rfl <;> assumption))))
                have q10 := hsz 10 (by omega) (key 10 _ rfl (by intro e he _; simp at he; try (first | (subst he; assumption) | (rcases he with rfl | rfl <;> assumption) | (rcases he with rfl | rfl | rfl <;> assumption) | (rcases he with rfl | rfl | rfl | rfl <;> assumption) | (rcases he with rfl | rfl | rfl | rfl | rfl <;> assumption) | (rcases he with rfl | rfl | rfl | rfl | rfl | rfl <;> assumption) | (rcases he with rfl | rfl | rfl | rfl | rfl | rfl | rfl <;> assumption) | (rcases he with rfl | rfl | rfl | rfl | rfl | rfl | rfl | rfl <;> assumption) | (rcases he with rfl | rfl | rfl | rfl | rfl | rfl | rfl | rfl | rfl <;> assumption) | (rcases he with rfl | rfl | rfl | rfl | rfl | rfl | rfl | rfl | rfl | rfl <;> assumption) | (rcases he with rfl | rfl | rfl | rfl | rfl | rfl | rfl | rfl | rfl | rfl | rfl <;> assumption) | (rcases he with rfl | rfl | rfl | rfl | rfl | rfl | rfl | rfl | rfl | rfl | rfl | rfl <;> assumption) | (rcases he with rfl | rfl | rfl | rfl | rfl | rfl | rfl | rfl | rfl | rfl | rfl | rfl | rfl <;> assumption))))
                obtain ⟨_, hB, _, _, _, _, _, _, _, _, _, _, _, a10⟩ := id hC
                have hown := a10 q10
                clear key hsz q0 q1 q2 q3 q4 q5 q6 q7 q8 q9 q10 a10 hC hr hls
                obtain ⟨A8, c8, rfl, hbk8⟩ := own_block hown (by omega)
                have hZ : xs.take k ++ [(s, p)] ++ ((xs.drop (k + 1))) = putL xs s p := by unfold putL; rw [HE.out, if_pos HH.out]
                rw [hZ] at hown
                have hZl : (putL xs s p).length = k + 1 + ((0)) := (Rd.own hown).enLen
                have HZX : Hid (∀ x ∈ putL xs s p, x.1.size ≤ maxLen) := Lib.hid (by
                  rw [← hZ]
                  intro x hxm
                  rw [List.mem_append, List.mem_append, List.mem_singleton] at hxm
                  rcases hxm with (hxm | rfl) | hxm
                  · exact HX.out x (List.mem_of_mem_take hxm)
                  · exact ht
                  · exact HX.out x (List.mem_of_mem_drop hxm))
                clear hZ
                have hB8 := below_step hb9 hB
                have ho8 := own_base hown hb9.size
                go_wp2_with fail
                refine (specEntriesValid _ _ _ (putL xs s p) _ (Rd.own hown) HZX.out (by omega)).mono ?_
                rintro e w3 ⟨rfl, q3, hq3⟩
                have hB3 : Below w.heap.size w w3 := by rw [hq3]; exact below_to hB8 hB8.size (below_drewN _ _)
                have ho3 : w3.ownsRow w.heap.size 63 2 (.slice A8 (k + 1 + ((0))) c8) (k + 1 + ((0))) (ens (putL xs s p)) := by rw [hq3]; exact own_below ho8 (below_drewN _ _)
                clear hq3
                cases hv2 : entriesV (putL xs s p)
                · have HP : Hid (putE xs s p = (xs, false)) := Lib.hid (by unfold putE; rw [if_pos HV.out, if_neg (by rw [hv2]; simp)])
                  clear hv2
                  have hr3 := h.below hB3
                  go_wp2_with (at_builtin; refine wpList_appS _ rfl (.tmp 63) (.tmp 64) _ rfl w3.heap.size 63 2 24 _ Try.underlying53 ens_info rfl (by omega) (by omega) _ 0 _ rfl (own_empty w3 63 2) _ _ _ (ens xs) rfl (hr3.alloc _) (ens_one _) (by omega) (by simp) ?_; intro v4 w4 hown4 hg4 hbk4; have hb4 : Below w3.heap.size w3 w4 := below_app ((Below.refl _ _).alloc (Nat.le_refl _) _) (own_empty w3 63 2) hg4 (by simp); rw [List.nil_append, Nat.zero_add] at hown4)
                  refine bodyPost_ret (v := .tuple #[v4, .bool false]) (by simp [results, Try.results52, go_sem]) rfl ?_
                  rw [HP.out]
                  refine ⟨_, rfl, ?_, below_step hB3 hb4, fun e => by rcases hbk4 with h | h <;> rw [h] at e <;> cases e⟩
                  rw [show (xs, false).1.length = (k + 1) from HL.out]
                  exact own_base hown4 hB3.size
                · have HP : Hid (putE xs s p = (putL xs s p, true)) := Lib.hid (by unfold putE; rw [if_pos HV.out, if_pos hv2])
                  clear hv2
                  go_wp2_with fail
                  refine bodyPost_ret (v := .tuple #[.slice A8 (k + 1 + ((0))) c8, .bool true]) (by simp [results, Try.results52, go_sem]) rfl ?_
                  rw [HP.out]
                  refine ⟨_, rfl, ?_, hB3, hbk8⟩
                  rw [show (putL xs s p, true).1.length = k + 1 + ((0)) from hZl]
                  exact ho3
            · have hck2 : ¬ c = k + 1 := fun e => hck e.symm
              exfalso
              obtain ⟨q1, q2⟩ := HCS.out
              have e1 := HE.out
              have e2 := HH.out
              first
                | omega
                | (have e3 := HKE.out; omega)
                | (rw [e2] at q1; exact absurd q1 (by decide))
                | (rw [e2] at q2; exact absurd q2 (by decide))
          · have hne : (s.toList == t.toList) = false := toList_nee hst
            have HH : Hid (enHere t xs = false) := Lib.hid (by unfold enHere; rw [HE.out, HXK.out]; exact decide_eq_false hst)
            exfalso
            obtain ⟨q1, q2⟩ := HCS.out
            have e1 := HE.out
            have e2 := HH.out
            first
              | omega
              | (have e3 := HKE.out; omega)
              | (rw [e2] at q1; exact absurd q1 (by decide))
              | (rw [e2] at q2; exact absurd q2 (by decide))
        · have hbl' : Go.Op.bytesLess s.toList t.toList = true := hbl
          have HB' : Hid (∀ j x, j < k + 1 → xs[j]? = some x → enBelow t x = true) := Lib.hid (fun j x hj hxx => by
            rcases Nat.lt_or_ge j k with h1 | h1
            · exact HB.out j x h1 hxx
            · obtain rfl : j = k := by omega
              rw [hxk] at hxx
              obtain rfl := Option.some.inj hxx
              exact hbl)
          clear hxk hbl
          go_wp2_with fail
          go_quiet (fail)
          go_wp2
          go_roundw
          case rel => exact ⟨k + 1, by go_num, by omega, HB', q + nq, by rw [HW.out, World.drewN_drewN]⟩
          case measure => simp [intOf]; omega
      · have hke : k = n := by omega
        have hkk : decide ((k : Int) < (n : Int)) = false := decide_eq_false (by omega)
        have hkk' : decide (k < n) = false := decide_eq_false (by omega)
        have HE := Lib.hid (show enPos t xs = k from posOf_is (by rw [HL.out]; omega) HB.out (fun x hxx => by rw [List.getElem?_eq_none (by rw [HL.out]; omega)] at hxx; cases hxx))
        have HH : Hid (enHere t xs = false) := Lib.hid (by unfold enHere; rw [HE.out, List.getElem?_eq_none (by rw [HL.out]; omega)])
        have HKE := Lib.hid hke
        clear hke hlt
        by_cases hck : c = k
        · have hkn := HKE.out
          subst hkn
          subst hck
          have hk0 : (0 : Int) ≤ (c : Int) := Int.natCast_nonneg _
          exfalso
          obtain ⟨q1, q2⟩ := HCS.out
          have e1 := HE.out
          have e2 := HH.out
          first
            | omega
            | (have e3 := HKE.out; omega)
            | (rw [e2] at q1; exact absurd q1 (by decide))
            | (rw [e2] at q2; exact absurd q2 (by decide))
        · have hkc2 : k ≤ c := by omega
          have hk0 : (0 : Int) ≤ (k : Int) := Int.natCast_nonneg _
          have hkn : (k : Int) ≤ (n : Int) := by omega
          have hnc : (n : Int) ≤ (c : Int) := by omega
          have hkc : (k : Int) ≤ (c : Int) := by omega
          exfalso
          obtain ⟨q1, q2⟩ := HCS.out
          have e1 := HE.out
          have e2 := HH.out
          first
            | omega
            | (have e3 := HKE.out; omega)
            | (rw [e2] at q1; exact absurd q1 (by decide))
            | (rw [e2] at q2; exact absurd q2 (by decide))
end Go.Proofs.Ythoiljgpggldcaa
