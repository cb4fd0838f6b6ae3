/- Contract of slices.Insert at pieces: one more among those of a row of the call's own. -/
import Derived.Test.YtjombaiplnebmaaDoorIns
import Derived.Test.YtjombaiplnebmaaDoorPcs
import Derived.Test.YtjombaiplnebmaaDoorCut
import Derived.Test.YtjombaiplnebmaaDoorOpen
open Go.RowKit
namespace Go.Proofs.YtjombaiplnebmaaDoor
set_option maxRecDepth 8000 in
set_option maxHeartbeats 1600000 in
theorem insertP_end (base n c vb : Nat) (A : Option Addr) (xs news : List Value) (w : World) (h : w.ownsRow base 63 2 (.slice A n c) n xs) (hr : Rd w 2 (some ⟨vb, 0, none⟩) 1 news) (h1 : ∀ u ∈ news, u.oneCell' = true) (hn : n ≤ 4194304) (hb : base ≤ w.heap.size) :
    Calls Tryd.prog 69 #[.slice A n c, .int .i64 (n : Int), .slice (some ⟨vb, 0, none⟩) 1 1] w fun e w' => ∃ v', e = .returned v' ∧ w'.ownsRow base 63 2 v' (n + 1) (xs ++ news) ∧ w.grownBy w' (Value.slice A n c).ownBlock := by
  have HR : ∃ row, Hid ((Value.slice A n c).ownBlock = row) := ⟨_, Lib.hid rfl⟩
  obtain ⟨row, HR⟩ := HR
  rw [HR.out]
  go_enter Tryd.func69, Tryd.ntmps69
  go_wp2_with (at_builtin; refine wpList_appS _ rfl (.tmp 23) (.tmp 24) _ rfl base 63 2 24 _ Tryd.underlying34 pcs_info rfl (by omega) (by omega) (.slice A n c) n _ rfl h _ _ _ news rfl hr h1 (by omega) hb ?_; intro v4 w4 hown4 hg4 _; rw [HR.out] at hg4)
  all_goals
    go_ret
    exact ⟨_, rfl, hown4, hg4⟩
set_option maxRecDepth 8000 in
set_option maxHeartbeats 1600000 in
theorem insertP_room (base g n c p vb : Nat) (xs news : List Value) (nc : Array Value) (w : World) (h : w.ownsRow base 63 2 (.slice (some ⟨g, 0, none⟩) n c) n xs) (hv : w.heap[vb]? = some (.cells nc 63 (0, 0))) (hnc : nc.toList = news) (h2 : news.length = 2) (h1 : ∀ u ∈ news, u.oneCell' = true) (h1x : ∀ u ∈ xs, u.oneCell' = true) (hne : vb ≠ g) (hp : p < n) (hc : n < c) (hn : n ≤ 4194304) (hcm : c ≤ maxLen) :
    Calls Tryd.prog 69 #[.slice (some ⟨g, 0, none⟩) n c, .int .i64 (p : Int), .slice (some ⟨vb, 0, none⟩) 1 1] w fun e w' => e = .returned (.slice (some ⟨g, 0, none⟩) (n + 1) c) ∧ w'.ownsRow base 63 2 (.slice (some ⟨g, 0, none⟩) (n + 1) c) (n + 1) (insC xs (p * 2) news) ∧ w.grownBy w' (some g) := by
  unfold maxLen at hcm
  have hov : ∀ b off la ca lb cb, (callFunc 85 #[.slice (some ⟨vb, b, none⟩) la ca, .slice (some ⟨g, off, none⟩) lb cb]).run Tryd.prog w = .ok (.value (.bool false)) w := fun b off la ca lb cb => by
    obtain ⟨i0, hi0, _, hz1, _⟩ := info_parts pcs_info
    obtain ⟨cur, hg, hcs⟩ := own_heap h
    rw [run_callFunc_extern Tryd.func85 (by kernel_rfl) (by kernel_rfl) (by kernel_rfl) (e := Extern.SlicesOverlaps.overlaps #[34, 34] #[4]) (by kernel_rfl),
      Lib.run_overlaps_apart w 34 4 63 Tryd.underlying34 2 (fun W => by simp [sizeOf, typeInfo, hi0, hz1]) ⟨vb, b, none⟩ ⟨g, off, none⟩ la ca lb cb hne 63 63 nc.size (c * 2) (by simp [World.shape?, hv]) (by simp [World.shape?, hg, hcs]) (by omega) (frozen_of_row w vb b nc _ hv) (frozen_of_row w vb nc.size nc _ hv)]
    rfl
  obtain ⟨us, hus, hm⟩ := own_more h hc
  have hxl := h.1
  have hsz : (Tryd.prog.info? 63).map (·.size) = some 2 := by kernel_rfl
  have hdl : (xs.drop (p * 2)).length = (n - p) * 2 := by rw [List.length_drop, hxl]; omega
  have hcp1 : ∀ ty dc sc, (Builtin.copy_ #[34, 34] ty #[.slice (some ⟨g, (p + 1) * 2, none⟩) (n + 1 - (p + 1)) dc, .slice (some ⟨g, p * 2, none⟩) (n + 1 - p) sc]).run Tryd.prog w.drew = .ok (goInt (Nat.min (n + 1 - p) (n + 1 - (p + 1)))) (w.drew.setCells g ((p + 1) * 2) (xs.drop (p * 2))) := fun ty dc sc =>
    run_copyN w.drew _ _ ty 63 2 g ((p + 1) * 2) _ dc ⟨g, p * 2, none⟩ _ sc _ Tryd.underlying34 hsz (by rw [hdl]; simp only [Nat.min_def]; split <;> omega)
      (fun j v hj => by
        rw [add_mk]
        rw [List.getElem?_drop] at hj
        have hjl := (List.getElem?_eq_some_iff.1 hj).1
        exact (h.cellAt (p * 2 + j) (by omega)).trans hj)
      (fun j hj => own_some h _ (by omega)) (fun j hj => h.frozenAt _) (fun v hv => h1x v (List.mem_of_mem_drop hv))
  have hs1 := own_setCells (xs.drop (p * 2)) ((p + 1) * 2) w.drew (xs ++ us) hm (by rw [List.length_append, hdl, hxl, hus]; omega)
  obtain ⟨W1, hW1⟩ : ∃ W1, W1 = w.drew.setCells g ((p + 1) * 2) (xs.drop (p * 2)) := ⟨_, rfl⟩
  rw [← hW1] at hcp1 hs1
  have hvc : ∀ j v, news[j]? = some v → W1.cell? ((⟨vb, 0, none⟩ : Addr).add j) = some v := fun j v hj => by
    rw [add_mk, hW1, World.cell?_setCells_out _ _ _ _ _ (fun e _ => absurd e hne), Nat.zero_add]
    show w.cell? ⟨vb, j, none⟩ = some v
    rw [cell_of_row w vb j nc _ (0, 0) hv, ← Array.getElem?_toList, hnc]
    exact hj
  have hcp2 : ∀ ty dc, (Builtin.copy_ #[34, 34] ty #[.slice (some ⟨g, p * 2, none⟩) (n + 1 - p) dc, .slice (some ⟨vb, 0, none⟩) 1 1]).run Tryd.prog W1 = .ok (goInt (Nat.min 1 (n + 1 - p))) (W1.setCells g (p * 2) news) := fun ty dc =>
    run_copyN W1 _ _ ty 63 2 g (p * 2) _ dc ⟨vb, 0, none⟩ 1 1 news Tryd.underlying34 hsz (by rw [h2]; simp only [Nat.min_def]; split <;> omega) hvc
      (fun j hj => own_some hs1.1 _ (by omega)) (fun j hj => hs1.1.frozenAt _) h1
  have hs2 := own_setCells news (p * 2) W1 _ hs1.1 (by rw [h2, hs1.1.1]; omega)
  have HS : Hid ((W1.setCells g (p * 2) news).ownsRow base 63 2 (.slice (some ⟨g, 0, none⟩) (n + 1) c) (n + 1) (insC xs (p * 2) news)) := Lib.hid (by
    have e := insC_steps (xs := xs) (ys := us) (us := news) (i := p * 2) (by omega) (by omega)
    rw [h2, show p * 2 + 2 = (p + 1) * 2 from by omega] at e
    have h3 := hs2.1
    rw [h2, show p * 2 + 2 = (p + 1) * 2 from by omega, e] at h3
    exact h3)
  have HG : Hid (w.grownBy (W1.setCells g (p * 2) news) (some g)) := Lib.hid (grow2 ⟨hs1.2.os, hs1.2.tape, hs1.2.output, hs1.2.size, hs1.2.block⟩ hs2.2)
  clear hs1 hs2 hvc hdl hus hm hsz hxl hW1
  have hw1 : IntKind.i64.wrap ((p : Int) + 1) = (p : Int) + 1 := IntWalk.i64_in _ (by omega)
  have hb1 : (0 : Int) ≤ (p : Int) + 1 := by omega
  have hb2 : (p : Int) + 1 ≤ (n : Int) + 1 := by omega
  have htn : ((p : Int) + 1).toNat = p + 1 := by omega
  have hb3 : (p : Int) ≤ (n : Int) + 1 := by omega
  have hc1 : ¬ c = p + 1 := by omega
  have hc2 : ¬ c = p := by omega
  go_enter Tryd.func69, Tryd.ntmps69
  go_wp2_with (simp only [hov])
  go_region_law (refine step_copyR _ rfl (.tmp 73) (.tmp 76) 34 34 rfl (.slice (some ⟨g, (p + 1) * 2, none⟩) (n + 1 - (p + 1)) (c - (p + 1))) (.slice (some ⟨g, p * 2, none⟩) (n + 1 - p) (c - p)) (by simp [Act.eval, Act.put]) (by simp [Act.eval, Act.put]) (hcp1 _ _ _) ?_)
  go_wp2_with (at_builtin; refine wpList_copyR _ rfl (.tmp 80) (.tmp 81) 34 34 rfl (.slice (some ⟨g, p * 2, none⟩) (n + 1 - p) (c - p)) (.slice (some ⟨vb, 0, none⟩) 1 1) (by simp [Act.eval, Act.put]) (by simp [Act.eval, Act.put]) (hcp2 _ _) ?_)
  go_ret
  exact ⟨rfl, HS.out, HG.out⟩
set_option maxRecDepth 8000 in
set_option maxHeartbeats 1600000 in
theorem insertP_grow (base g n p vb : Nat) (xs news : List Value) (nc : Array Value) (w : World) (h : w.ownsRow base 63 2 (.slice (some ⟨g, 0, none⟩) n n) n xs) (hv : w.heap[vb]? = some (.cells nc 63 (0, 0))) (hnc : nc.toList = news) (h2 : news.length = 2) (h1 : ∀ u ∈ news, u.oneCell' = true) (h1x : ∀ u ∈ xs, u.oneCell' = true) (hp : p < n) (hn : n ≤ 4194304) (hbase : base ≤ w.heap.size) :
    Calls Tryd.prog 69 #[.slice (some ⟨g, 0, none⟩) n n, .int .i64 (p : Int), .slice (some ⟨vb, 0, none⟩) 1 1] w fun e w' => ∃ v', e = .returned v' ∧ w'.ownsRow base 63 2 v' (n + 1) (insC xs (p * 2) news) ∧ w.grownBy w' (some g) := by
  have hxl := h.1
  obtain ⟨i0, hi0, hz0, hz1, hz2⟩ := info_parts pcs_info
  have hgw := (h.lt g rfl).2
  have hvw : vb < w.heap.size := (Array.getElem?_eq_some_iff.1 hv).1
  have hsz : (Tryd.prog.info? 63).map (·.size) = some 2 := by kernel_rfl
  have hdl : (xs.drop (p * 2)).length = (n - p) * 2 := by rw [List.length_drop, hxl]; omega
  have hold : (Builtin.firstCells i0.size p (.slice (some ⟨g, 0, none⟩) p n)).run Tryd.prog w.drew = .ok (xs.take (p * 2)).toArray w.drew := by
    rw [hz1]
    exact run_firstCells_some w.drew 2 p ⟨g, 0, none⟩ p n (xs.take (p * 2)) (by rw [List.length_take]; omega) (fun j v hj => by
      rw [add_mk, Nat.zero_add]
      rw [List.getElem?_take] at hj
      split at hj
      · have hjl := (List.getElem?_eq_some_iff.1 hj).1
        exact (h.cellAt j (by omega)).trans hj
      · cases hj)
  have hpk : p + (n + 1 - p) = n + 1 := by omega
  have hrz := Lib.run_append_grow_zeros w 34 3 34 63 i0 _ .i64 .i64 Tryd.underlying34 Tryd.underlying3 hi0 hz0 (some ⟨g, 0, none⟩) p n (xs.take (p * 2)) hold (n + 1 - p) (by omega) (by rw [hz1]; omega) (by omega) (by omega) (by rw [hz2]; omega) (by rw [hz2, hpk]; exact growslice_fits (by omega) (by omega))
  rw [hpk] at hrz
  obtain ⟨G, hG⟩ : ∃ G, G = grownCap w (n + 1) n 63 := ⟨_, rfl⟩
  obtain ⟨zs, hzs⟩ : ∃ zs : Array Value, zs = Builtin.zeroCells (Value.agg #[.int .i64 0, .string ⟨#[]⟩]).cells (n + 1 - p) := ⟨_, rfl⟩
  obtain ⟨zt, hzt⟩ : ∃ zt : Array Value, zt = Builtin.zeroCells (Value.agg #[.int .i64 0, .string ⟨#[]⟩]).cells (G - (n + 1)) := ⟨_, rfl⟩
  rw [← hG, ← hzs, ← hzt] at hrz
  have hzl : zs.size = (n + 1 - p) * 2 := by rw [hzs]; simp [Builtin.zeroCells, Value.cells]
  have htl : zt.size = (G - (n + 1)) * 2 := by rw [hzt]; simp [Builtin.zeroCells, Value.cells]
  have hGn : n + 1 ≤ G := by rw [hG]; exact grownCap_ge w _ _ _
  have hGm : G ≤ maxLen := by rw [hG]; exact grownCap_le_maxLen w _ _ _ (by unfold maxLen; omega)
  obtain ⟨W1, hW1⟩ : ∃ W1, W1 = w.drew.alloc (.cells ((xs.take (p * 2)).toArray ++ zs ++ zt) 63) := ⟨_, rfl⟩
  have hg1 : w.grownBy W1 (some g) := by
    rw [hW1]
    exact ⟨rfl, rfl, rfl, Nat.le_trans (Nat.le_succ w.heap.size) (Nat.le_of_eq (show w.heap.size + 1 = (w.drew.alloc _).heap.size from (Array.size_push ..).symm)), fun k hk _ => heap_alloc_old w.drew _ (r := k) hk⟩
  have htk : (xs.take (p * 2)).length = p * 2 := by rw [List.length_take]; omega
  have hm1 : W1.ownsRow base 63 2 (.slice (some ⟨w.heap.size, 0, none⟩) (n + 1) G) (n + 1) (xs.take (p * 2) ++ zs.toList) := by
    refine ⟨by rw [List.length_append, htk, Array.length_toList]; omega, .inr ⟨w.heap.size, G, _, rfl, hbase, by rw [hW1]; exact heap_alloc_new w.drew _, hGn, hGm, ?_, ?_⟩⟩
    · rw [Array.size_append, Array.size_append, List.size_toArray, htk]
      omega
    · rw [Array.toList_append, Array.toList_append, List.toList_toArray]
      exact List.take_left' (by rw [List.length_append, htk, Array.length_toList]; omega)
  rw [← hW1, show ((n + 1 - p : Nat) : Int) = (n : Int) + 1 - (p : Int) from by omega] at hrz
  have hs2 := own_setCells news (p * 2) W1 _ hm1 (by rw [h2, hm1.1]; omega)
  have hvc : ∀ j v, news[j]? = some v → W1.cell? ((⟨vb, 0, none⟩ : Addr).add j) = some v := fun j v hj => by
    rw [add_mk, Nat.zero_add, hW1]
    have e : (w.drew.alloc (.cells ((xs.take (p * 2)).toArray ++ zs ++ zt) 63)).cell? ⟨vb, j, none⟩ = w.cell? ⟨vb, j, none⟩ := World.cell?_of_block (heap_alloc_old w.drew _ (r := vb) hvw)
    rw [e, cell_of_row w vb j nc _ (0, 0) hv, ← Array.getElem?_toList, hnc]
    exact hj
  have hcp1 : ∀ ty dc, (Builtin.copy_ #[34, 34] ty #[.slice (some ⟨w.heap.size, p * 2, none⟩) (n + 1 - p) dc, .slice (some ⟨vb, 0, none⟩) 1 1]).run Tryd.prog W1 = .ok (goInt (Nat.min 1 (n + 1 - p))) (W1.setCells w.heap.size (p * 2) news) := fun ty dc =>
    run_copyN W1 _ _ ty 63 2 w.heap.size (p * 2) _ dc ⟨vb, 0, none⟩ 1 1 news Tryd.underlying34 hsz (by rw [h2]; simp only [Nat.min_def]; split <;> omega) hvc
      (fun j hj => own_some hm1 _ (by omega)) (fun j hj => hm1.frozenAt _) h1
  obtain ⟨W2, hW2⟩ : ∃ W2, W2 = W1.setCells w.heap.size (p * 2) news := ⟨_, rfl⟩
  rw [← hW2] at hcp1 hs2
  have hm2 : W2.drew.ownsRow base 63 2 (.slice (some ⟨w.heap.size, 0, none⟩) (n + 1) G) (n + 1) _ := hs2.1
  have hsc : ∀ j v, (xs.drop (p * 2))[j]? = some v → W2.drew.cell? ((⟨g, p * 2, none⟩ : Addr).add j) = some v := fun j v hj => by
    rw [add_mk]
    rw [List.getElem?_drop] at hj
    have hjl := (List.getElem?_eq_some_iff.1 hj).1
    have e1 : W2.drew.cell? ⟨g, p * 2 + j, none⟩ = W1.cell? ⟨g, p * 2 + j, none⟩ := World.cell?_of_block (w := W1) (hs2.2.block g (Nat.lt_of_lt_of_le hgw hg1.size) (fun e => by injection e with e; omega))
    have e2 : W1.cell? ⟨g, p * 2 + j, none⟩ = w.cell? ⟨g, p * 2 + j, none⟩ := by
      rw [hW1]
      exact World.cell?_of_block (heap_alloc_old w.drew _ (r := g) hgw)
    exact (e1.trans e2).trans ((h.cellAt (p * 2 + j) (by omega)).trans hj)
  have hs3 := own_setCells (xs.drop (p * 2)) ((p + 1) * 2) W2.drew _ hm2 (by rw [hm2.1, hdl]; omega)
  have hcp2 : ∀ ty dc sc, (Builtin.copy_ #[34, 34] ty #[.slice (some ⟨w.heap.size, (p + 1) * 2, none⟩) (n + 1 - (p + 1)) dc, .slice (some ⟨g, p * 2, none⟩) (n - p) sc]).run Tryd.prog W2.drew = .ok (goInt (Nat.min (n - p) (n + 1 - (p + 1)))) (W2.drew.setCells w.heap.size ((p + 1) * 2) (xs.drop (p * 2))) := fun ty dc sc =>
    run_copyN W2.drew _ _ ty 63 2 w.heap.size ((p + 1) * 2) _ dc ⟨g, p * 2, none⟩ _ sc _ Tryd.underlying34 hsz (by rw [hdl]; simp only [Nat.min_def]; split <;> omega) hsc
      (fun j hj => own_some hm2 _ (by omega)) (fun j hj => hm2.frozenAt _) (fun v hv => h1x v (List.mem_of_mem_drop hv))
  obtain ⟨W3, hW3⟩ : ∃ W3, W3 = W2.drew.setCells w.heap.size ((p + 1) * 2) (xs.drop (p * 2)) := ⟨_, rfl⟩
  rw [← hW3] at hcp2 hs3
  have HS : Hid (W3.ownsRow base 63 2 (.slice (some ⟨w.heap.size, 0, none⟩) (n + 1) G) (n + 1) (insC xs (p * 2) news)) := Lib.hid (by
    have e := insC_new (T := xs.take (p * 2)) (Z := zs.toList) (U := news) (D := xs.drop (p * 2)) htk (by rw [Array.length_toList, hzl, h2, hdl]; omega)
    rw [h2, show p * 2 + 2 = (p + 1) * 2 from by omega] at e
    have h3 := hs3.1
    rw [h2, show p * 2 + 2 = (p + 1) * 2 from by omega, e] at h3
    exact h3)
  have HG : Hid (w.grownBy W3 (some g)) := Lib.hid (grow_new (grow_new hg1 hs2.2 (Nat.le_refl _)) (W := W2) ⟨hs3.2.os, hs3.2.tape, hs3.2.output, hs3.2.size, hs3.2.block⟩ (Nat.le_refl _))
  clear hs2 hs3 hm1 hm2 hvc hsc hdl hsz hxl hW1 hW2 hW3 hzs hzt hzl htl hG hold hpk hz0 hz1 hz2 hi0 htk hg1
  unfold maxLen at hGm
  have hw1 : IntKind.i64.wrap ((p : Int) + 1) = (p : Int) + 1 := IntWalk.i64_in _ (by omega)
  have hb1 : (0 : Int) ≤ (p : Int) + 1 := by omega
  have hb2 : (p : Int) + 1 ≤ (n : Int) + 1 := by omega
  have htn : ((p : Int) + 1).toNat = p + 1 := by omega
  have hb3 : (p : Int) ≤ (n : Int) := by omega
  have hc1 : ¬ G = p + 1 := by omega
  have hc2 : ¬ G = p := by omega
  have hc3 : ¬ n = p := by omega
  go_enter Tryd.func69, Tryd.ntmps69
  go_wp2_with (first
    | (at_builtin; refine Lib.wpList_append_run _ rfl _ _ _ _ rfl _ _ rfl rfl _ _ hrz ?_)
    | (at_builtin; refine wpList_copyR _ rfl (.tmp 43) (.tmp 44) 34 34 rfl (.slice (some ⟨w.heap.size, p * 2, none⟩) (n + 1 - p) (G - p)) (.slice (some ⟨vb, 0, none⟩) 1 1) (by simp [Act.eval, Act.put]) (by simp [Act.eval, Act.put]) (hcp1 _ _) ?_))
  go_region_law (refine step_copyR _ rfl (.tmp 50) (.tmp 53) 34 34 rfl (.slice (some ⟨w.heap.size, (p + 1) * 2, none⟩) (n + 1 - (p + 1)) (G - (p + 1))) (.slice (some ⟨g, p * 2, none⟩) (n - p) (n - p)) (by simp [Act.eval, Act.put]) (by simp [Act.eval, Act.put]) (hcp2 _ _ _) ?_)
  go_wp2_with fail
  go_ret
  exact ⟨_, rfl, HS.out, HG.out⟩
theorem insL_pcs (xs : List (Int × ByteArray)) (x : Int × ByteArray) (p : Nat) : insC (pcs xs) (p * 2) [.int .i64 x.1, .string x.2] = pcs (xs.take p ++ [x] ++ xs.drop p) := by
  unfold insC
  rw [pcs_append, pcs_append, pcs_take, pcs_drop]
  rfl
theorem insertP (base n c p vb : Nat) (A : Option Addr) (xs : List (Int × ByteArray)) (x : Int × ByteArray) (w : World) (h : w.ownsRow base 63 2 (.slice A n c) n (pcs xs)) (hv : w.heap[vb]? = some (.cells #[.int .i64 x.1, .string x.2] 63 (0, 0))) (hne : (Value.slice A n c).ownBlock ≠ some vb) (hp : p ≤ n) (hn : n ≤ 4194304) (hb : base ≤ w.heap.size) :
    Calls Tryd.prog 69 #[.slice A n c, .int .i64 (p : Int), .slice (some ⟨vb, 0, none⟩) 1 1] w fun e w' => ∃ v', e = .returned v' ∧ w'.ownsRow base 63 2 v' (n + 1) (pcs (xs.take p ++ [x] ++ xs.drop p)) ∧ w.grownBy w' (Value.slice A n c).ownBlock := by
  have hl : xs.length = n := by
    have := h.1
    rw [pcs_length] at this
    omega
  have hvl := (Array.getElem?_eq_some_iff.1 hv).1
  have h1 : ∀ u ∈ [Value.int .i64 x.1, Value.string x.2], u.oneCell' = true := fun u hu => by
    rcases List.mem_cons.1 hu with rfl | hu
    · rfl
    · rw [List.mem_singleton.1 hu]
      rfl
  rcases Nat.lt_or_ge p n with hlt | hge
  · rcases h.2 with ⟨_, h0⟩ | ⟨g, cap, cur, he, _, _, hnc, hcm, _, _⟩
    · omega
    · injection he with he1 he2 he3
      subst he1 he3
      have hne' : vb ≠ g := fun e => hne (by rw [e]; rfl)
      rw [← insL_pcs]
      rcases Nat.lt_or_ge n c with hc | hc
      · refine (insertP_room base g n c p vb (pcs xs) _ _ w h hv rfl rfl h1 (pcs_one xs) hne' hlt hc hn hcm).mono ?_
        rintro e w' ⟨rfl, h2, h3⟩
        exact ⟨_, rfl, h2, h3⟩
      · have hcn : c = n := by omega
        subst hcn
        exact insertP_grow base g c p vb (pcs xs) _ _ w h hv rfl rfl h1 (pcs_one xs) hlt hn hb
  · have hpn : p = n := by omega
    subst hpn
    have e : pcs (xs.take p ++ [x] ++ xs.drop p) = pcs xs ++ [.int .i64 x.1, .string x.2] := by
      rw [List.take_of_length_le (by omega), List.drop_of_length_le (by omega), List.append_nil, pcs_append]
      rfl
    rw [e]
    refine insertP_end base p c vb A (pcs xs) _ w h ⟨rfl, fun _ => ⟨vb, 0, rfl, hvl, fun j u hj => ?_⟩⟩ h1 hn hb
    rw [Nat.zero_add, cell_of_row w vb j _ _ (0, 0) hv, ← Array.getElem?_toList]
    exact hj
end Go.Proofs.YtjombaiplnebmaaDoor
