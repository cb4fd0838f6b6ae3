/- Contracts of what a law does with lists of pieces: sizes, copies, compares. -/
import Derived.Test.YtjombaiplnebmaaGreatDoorWords
import Derived.Test.YtjombaiplnebmaaGreatDoorMem
import Derived.Test.YtjombaiplnebmaaGreatDoorStrs
import Derived.Deep.RegionLaw
open Go.RowKit
namespace Go.Proofs.YtjombaiplnebmaaGreatDoor
def totP (xs : List (Int × ByteArray)) : Nat := (xs.map fun x => x.2.size).sum
theorem totP_snoc (xs : List (Int × ByteArray)) (x : (Int × ByteArray)) : totP (xs ++ [x]) = totP xs + x.2.size := by simp [totP]
theorem totP_mem {xs : List (Int × ByteArray)} {x : (Int × ByteArray)} (h : x ∈ xs) : x.2.size ≤ totP xs := by
  induction xs with
  | nil => cases h
  | cons y ys ih =>
    unfold totP at ih ⊢
    rw [List.map_cons, List.sum_cons]
    rcases List.mem_cons.1 h with rfl | h
    · omega
    · have := ih h; omega
theorem szPiece (s : ByteArray) (p l : Int) (w : World) (hs : s.size ≤ maxLen) (hl : 0 ≤ l ∧ l ≤ 2097152) :
    Calls Tryz.prog 16 #[.agg #[.int .i64 p, .string s], .int .i64 l] w fun e w' => e = .returned (.int .i64 (if (s.size : Int) ≤ l then l - s.size else -1)) ∧ Below w.heap.size w w' := by
  obtain ⟨l0, l1⟩ := hl
  unfold maxLen at hs
  by_cases h : (s.size : Int) ≤ l
  · rw [if_pos h]
    go_enter Tryz.func16, Tryz.ntmps16
    go_wp2
    go_ret
    exact ⟨by go_num, (Below.refl _ _).alloc (Nat.le_refl _) _⟩
  · rw [if_neg h]
    go_enter Tryz.func16, Tryz.ntmps16
    go_wp2
    go_ret
    exact ⟨rfl, (Below.refl _ _).alloc (Nat.le_refl _) _⟩
theorem toPiece (s : ByteArray) (p : Int) (w : World) :
    Calls Tryz.prog 20 #[.agg #[.int .i64 p, .string s]] w fun e w' => e = .returned (.agg #[.int .i64 p, .string s]) ∧ Below w.heap.size w w' := by
  go_enter Tryz.func20, Tryz.ntmps20
  go_wp2
  refine bodyPost_ret (v := .agg #[.int .i64 p, .string s]) (by simp [results, Tryz.results20, go_sem]) rfl ⟨rfl, ?_⟩
  exact (((Below.refl _ _).alloc (Nat.le_refl _) _).alloc (by simp) _).alloc (by simp; omega) _
theorem eqPiece (s t : ByteArray) (p q : Int) (w : World) :
    Calls Tryz.prog 23 #[.agg #[.int .i64 p, .string s], .agg #[.int .i64 q, .string t]] w fun e w' => e = .returned (.bool (decide (s = t ∧ p = q))) ∧ Below w.heap.size w w' := by
  by_cases h1 : s = t
  · subst h1
    by_cases h2 : p = q
    · subst h2
      go_enter Tryz.func23, Tryz.ntmps23
      go_wp2
      go_ret
      exact ⟨ret_bool (by simp), ((Below.refl _ _).alloc (Nat.le_refl _) _).alloc (by simp) _⟩
    · have h2' : (p == q) = false := by simpa using h2
      have HN := Lib.hid h2
      clear h2
      go_enter Tryz.func23, Tryz.ntmps23
      go_wp2
      go_ret
      exact ⟨ret_bool (by simpa using HN.out), ((Below.refl _ _).alloc (Nat.le_refl _) _).alloc (by simp) _⟩
  · have h1' := toList_ne h1
    have HN := Lib.hid h1
    clear h1
    by_cases h2 : p = q
    · subst h2
      go_enter Tryz.func23, Tryz.ntmps23
      go_wp2
      go_ret
      exact ⟨ret_bool (by simp [HN.out]), ((Below.refl _ _).alloc (Nat.le_refl _) _).alloc (by simp) _⟩
    · have h2' : (p == q) = false := by simpa using h2
      clear h2
      go_enter Tryz.func23, Tryz.ntmps23
      go_wp2
      go_ret
      exact ⟨ret_bool (by simp [HN.out]), ((Below.refl _ _).alloc (Nat.le_refl _) _).alloc (by simp) _⟩
set_option maxRecDepth 4000 in
set_option maxHeartbeats 800000 in
theorem szPieceS (A : Option Addr) (n c : Nat) (l : Int) (xs : List (Int × ByteArray)) (w : World) (h : Rd w 2 A n (pcs xs)) (hx : ∀ x ∈ xs, x.2.size ≤ maxLen) (hn : n ≤ maxLen) (hl : 0 ≤ l ∧ l ≤ 2097152) :
    Calls Tryz.prog 5 #[.slice A n c, .int .i64 l] w fun e w' => (∃ x : Int, e = .returned (.int .i64 x) ∧ (0 ≤ x → (n : Int) + totP xs = l - x) ∧ -1 ≤ x) ∧ Below w.heap.size w w' := by
  obtain ⟨l0, l1⟩ := hl
  have hm : maxLen = 9223372036854775807 := by unfold maxLen; rfl
  rw [hm] at hn
  have HXL := Lib.hid h.pcLen
  by_cases h1 : (n : Int) ≤ l
  · go_enter Tryz.func5, Tryz.ntmps5
    go_wp2
    go_loopw [1, 5] (fun x i wr => ∃ (k : Nat) (y : Int), k ≤ n ∧ i = .int .i64 k ∧ x = .int .i64 y ∧ 0 ≤ y ∧ y ≤ l ∧ Hid ((n : Int) + totP (xs.take k) = l - y) ∧ Below w.heap.size w wr) (fun _ i _ => n - (intOf i).toNat)
    case atStart => exact ⟨0, _, Nat.zero_le _, rfl, rfl, by omega, by omega, Lib.hid (by show (n : Int) + ((totP [] : Nat) : Int) = _; simp [totP]; omega), Below.refl _ _⟩
    case round =>
      obtain ⟨k, y, hk, rfl, rfl, y0, y1, HY, hB⟩ := hrel
      by_cases hlt : k < n
      · obtain ⟨b, off, p, s, rfl, hbb, hxk, hc0, hc1⟩ := (h.below hB).pcAt hlt
        have hxs := hx _ (List.mem_of_getElem? hxk)
        dsimp only at hxs
        have HS := Lib.hid (show totP (xs.take (k + 1)) = totP (xs.take k) + s.size by rw [take_snoc hxk, totP_snoc])
        clear hxk hx
        by_cases hs : (s.size : Int) ≤ y
        · go_wp2_with (go_at_call 16; refine (szPiece s p y _ hxs ⟨y0, by omega⟩).mono ?_; rw [if_pos hs]; rintro e w2 ⟨rfl, hb2⟩)
          go_roundw
          case rel => exact ⟨k + 1, _, by omega, by go_num, rfl, by omega, by omega, Lib.hid (by have := HY.out; have := HS.out; omega), below_to hB hB.size hb2⟩
          case measure => simp [intOf]; omega
        · go_wp2_with (go_at_call 16; refine (szPiece s p y _ hxs ⟨y0, by omega⟩).mono ?_; rw [if_neg hs]; rintro e w2 ⟨rfl, hb2⟩)
          go_ret
          exact ⟨⟨-1, rfl, fun h => by omega, by omega⟩, below_to hB hB.size hb2⟩
      · have hkn : k = n := by omega
        subst hkn
        have hy := HY.out
        rw [List.take_of_length_le (by rw [HXL.out]; exact Nat.le_refl _)] at hy
        have HY' := Lib.hid hy
        clear hy hx
        go_wp2
        go_ret
        exact ⟨⟨y, rfl, fun _ => HY'.out, by omega⟩, hB⟩
  · go_enter Tryz.func5, Tryz.ntmps5
    go_wp2
    go_ret
    exact ⟨⟨-1, rfl, fun h => by omega, by omega⟩, Below.refl _ _⟩
theorem pcs_info : (Tryz.prog.info? 43).map (fun i => (i.zero, i.size, i.bytes)) = some (some (.agg #[.int .i64 0, .string ⟨#[]⟩]), 2, 24) := by kernel_rfl
theorem pcs_cell0 {xs : List (Int × ByteArray)} {k : Nat} {x : (Int × ByteArray)} (h : xs[k]? = some x) : (pcs xs)[k * 2]? = some (.int .i64 x.1) := by
  unfold pcs
  rw [flat2_get, if_pos (by omega), show k * 2 / 2 = k from by omega, h]
  rfl
theorem pcs_cell1 {xs : List (Int × ByteArray)} {k : Nat} {x : (Int × ByteArray)} (h : xs[k]? = some x) : (pcs xs)[k * 2 + 1]? = some (.string x.2) := by
  unfold pcs
  rw [flat2_get, if_neg (by omega), show (k * 2 + 1) / 2 = k from by omega, h]
  rfl
set_option maxRecDepth 4000 in
set_option maxHeartbeats 800000 in
theorem toPieceS (A : Option Addr) (n c : Nat) (xs : List (Int × ByteArray)) (w : World) (h : Rd w 2 A n (pcs xs)) (hn : n ≤ 4194304) :
    Calls Tryz.prog 7 #[.slice A n c] w fun e w' => ∃ v, e = .returned v ∧ w'.ownsRow w.heap.size 43 2 v n (pcs xs) ∧ Below w.heap.size w w' := by
  obtain ⟨i0, hi0, hz0, hz1, hz2⟩ := info_parts pcs_info
  have hxl := Lib.hid h.pcLen
  go_enter Tryz.func7, Tryz.ntmps7
  go_wp2_with (at_make; refine wpList_make_full _ rfl _ _ 26 rfl w.heap.size 43 i0 (.agg #[.int .i64 0, .string ⟨#[]⟩]) 2 Tryz.underlying26 hi0 hz0 hz1 .i64 .i64 _ _ n rfl rfl rfl rfl (by rw [hz2]; omega) (by unfold maxLen; omega) (Nat.le_refl _) ?_; intro w1 hown1 hg1)
  have hb1 : Below w.heap.size w w1 := (Below.refl _ _).grown hg1 (Nat.le_refl _) (by simp)
  clear hg1
  generalize (madeCells (Value.agg #[.int .i64 0, .string ⟨#[]⟩]).cells (n * 2)).toList = zs at hown1
  have hzl : Hid (zs.length = n * 2) := by have := hown1.1; exact Lib.hid (by omega)
  generalize hG : w.heap.size = G at hown1 hb1 ⊢
  have HG := Lib.hid hG
  clear hG
  go_loopw [4] (fun i wr => ∃ k : Nat, k ≤ n ∧ i = .int .i64 k ∧ wr.ownsRow G 43 2 (.slice (some ⟨G, 0, none⟩) n n) n (mix (pcs xs) zs (k * 2)) ∧ Below G w wr) (fun i _ => n - (intOf i).toNat)
  case atStart => exact ⟨0, Nat.zero_le _, rfl, by rw [Nat.zero_mul, mix_zero]; exact hown1, hb1⟩
  case round =>
    obtain ⟨k, hk, rfl, hown, hbel⟩ := hrel
    by_cases hlt : k < n
    · obtain ⟨b, off, p, s, rfl, hbb, hxk, hc0, hc1⟩ := h.pcAt hlt
      have hc0' : wr.cell? ⟨b, off + k * 2, none⟩ = some (.int .i64 p) := (hbel.cell (by rw [← HG.out]; exact hbb)).trans hc0
      have hc1' : wr.cell? ⟨b, off + k * 2 + 1, none⟩ = some (.string s) := (hbel.cell (by rw [← HG.out]; exact hbb)).trans hc1
      have hl : (pcs xs).length = zs.length := by rw [pcs_length, hxl.out, hzl.out]
      have HM1 := Lib.hid (mix_set (pcs_cell0 hxk) hl)
      have HM2 := Lib.hid (mix_set (pcs_cell1 hxk) hl)
      have HZ0 : Hid (∃ u, (mix (pcs xs) zs (k * 2))[k * 2]? = some u) := Lib.hid (by rw [mix_get hl (by rw [hzl.out]; omega)]; exact ⟨_, List.getElem?_eq_getElem (by rw [hzl.out]; omega)⟩)
      have HZ1 : Hid (∃ u, (mix (pcs xs) zs (k * 2))[k * 2 + 1]? = some u) := Lib.hid (by
        have h1 : (k * 2 + 1) < (mix (pcs xs) zs (k * 2)).length := by rw [mix_length _ hl, hzl.out]; omega
        exact ⟨_, List.getElem?_eq_getElem h1⟩)
      have HZ2 : Hid (∃ u, (mix (pcs xs) zs (k * 2 + 1))[k * 2 + 1]? = some u) := Lib.hid (by rw [mix_get hl (by rw [hzl.out]; omega)]; exact ⟨_, List.getElem?_eq_getElem (by rw [hzl.out]; omega)⟩)
      clear hl hc0 hc1 h hxk
      go_wp2_with (go_at_call 20; refine (toPiece s p _).mono ?_; rintro e w2 ⟨rfl, hb2⟩; have hown2 := own_below hown hb2; obtain ⟨z0, hz0'⟩ := HZ0.out; obtain ⟨z1, hz1'⟩ := HZ1.out; obtain ⟨z2, hz2'⟩ := HZ2.out; have hk0 : w2.cell? ⟨G, k * 2, none⟩ = some z0 := (hown2.cellAt (k * 2) (by omega)).trans hz0'; have hf0 := hown2.frozenAt (k * 2); have hk1 : w2.cell? ⟨G, k * 2 + 1, none⟩ = some z1 := (hown2.cellAt (k * 2 + 1) (by omega)).trans hz1'; have hf1 := hown2.frozenAt (k * 2 + 1); have hown3 := (hown2.stored (k * 2) (.int .i64 p)).1; rw [HM1.out] at hown3; have hk3 : (w2.setCell ⟨G, k * 2, none⟩ (.int .i64 p)).cell? ⟨G, k * 2 + 1, none⟩ = some z2 := (hown3.cellAt (k * 2 + 1) (by omega)).trans hz2'; have hf3 := hown3.frozenAt (k * 2 + 1))
      have hown4 := (hown3.stored (k * 2 + 1) (.string s)).1
      rw [HM2.out] at hown4
      have HB := ((hbel.trans (hb2.mono (by have h1 := hbel.size; have h2 := HG.out; omega))).setCell (p := ⟨G, k * 2, none⟩) (Nat.le_refl _) (.int .i64 p)).setCell (p := ⟨G, k * 2 + 1, none⟩) (Nat.le_refl _) (.string s)
      go_wp2
      go_roundw
      case rel => exact ⟨k + 1, by omega, by go_num, by rw [show (k + 1) * 2 = k * 2 + 1 + 1 from by omega]; exact hown4, HB⟩
      case measure => simp [intOf]; omega
    · have hkn : k = n := by omega
      subst hkn
      have e : mix (pcs xs) zs (k * 2) = pcs xs := by have e0 := mix_all (pcs xs) zs (by rw [pcs_length, hxl.out, hzl.out]); rwa [pcs_length, hxl.out] at e0
      rw [e] at hown
      go_wp2
      go_ret
      refine ⟨_, rfl, ?_, ?_⟩
      · rw [HG.out]; exact hown
      · rw [HG.out]; exact hbel
set_option maxRecDepth 4000 in
set_option maxHeartbeats 1600000 in
theorem eqPieceS (A B : Option Addr) (n m c d : Nat) (xs ys : List (Int × ByteArray)) (w : World) (ha : Rd w 2 A n (pcs xs)) (hb : Rd w 2 B m (pcs ys)) (hn : n ≤ 4194304) :
    Calls Tryz.prog 9 #[.slice A n c, .slice B m d] w fun e w' => e = .returned (.bool (decide (xs = ys))) ∧ Below w.heap.size w w' := by
  have hxl := ha.pcLen
  have hyl := hb.pcLen
  by_cases hnm : n = m
  · subst hnm
    have HX := Lib.hid hxl
    have HY := Lib.hid hyl
    clear hxl hyl
    go_enter Tryz.func9, Tryz.ntmps9
    go_wp2
    go_loopw [5] (fun i wr => ∃ k : Nat, k ≤ n ∧ i = .int .i64 k ∧ Hid (xs.take k = ys.take k) ∧ Below w.heap.size w wr) (fun i _ => n - (intOf i).toNat)
    case atStart => exact ⟨0, Nat.zero_le _, rfl, Lib.hid rfl, Below.refl _ _⟩
    case round =>
      obtain ⟨k, hk, rfl, heq, hB⟩ := hrel
      by_cases hlt : k < n
      · obtain ⟨b, off, p, s, rfl, hbb, hxk, hc0, hc1⟩ := (ha.below hB).pcAt hlt
        obtain ⟨b', off', q, t, rfl, _, hyk, hd0, hd1⟩ := (hb.below hB).pcAt hlt
        have HX1 := Lib.hid hxk
        have HY1 := Lib.hid hyk
        clear hxk hyk
        have hlt' : (k : Int) < (n : Int) := by omega
        by_cases hxy : s = t ∧ p = q
        · obtain ⟨rfl, rfl⟩ := hxy
          go_wp2
          go_region_law (go_simp; go_at_call 23; refine (eqPiece s s p p _).mono ?_; rintro e w2 ⟨rfl, hb2⟩; rw [decide_eq_true ⟨rfl, rfl⟩])
          all_goals
            go_wp2
            go_roundw
            case rel => exact ⟨k + 1, by omega, by go_num, Lib.hid (by rw [take_snoc HX1.out, take_snoc HY1.out, heq.out]), below_to (below_to hB hB.size (below_drewN _ 1)) hB.size hb2⟩
            case measure => simp [intOf]; omega
        · have HD := Lib.hid (decide_eq_false hxy)
          have HXY := Lib.hid hxy
          clear hxy
          go_wp2
          go_region_law (go_simp; go_at_call 23; refine (eqPiece s t p q _).mono ?_; rintro e w2 ⟨rfl, hb2⟩; rw [HD.out])
          all_goals
            go_wp2
            go_ret
            refine ⟨ret_bool (decide_eq_false ?_).symm, below_to (below_to hB hB.size (below_drewN _ 1)) hB.size hb2⟩
            rintro rfl
            have h1 := HX1.out.symm.trans HY1.out
            injection h1 with h1
            injection h1 with h2 h3
            exact HXY.out (by first | exact ⟨h2, h3⟩ | exact ⟨h3, h2⟩)
      · have hkn : k = n := by omega
        subst hkn
        go_wp2
        go_ret
        refine ⟨ret_bool (decide_eq_true ?_).symm, hB⟩
        have h1 := heq.out
        rwa [List.take_of_length_le (by rw [HX.out]; exact Nat.le_refl _), List.take_of_length_le (by rw [HY.out]; exact Nat.le_refl _)] at h1
  · have hne : ¬ xs = ys := by rintro rfl; omega
    have HN := Lib.hid hne
    clear hne hxl hyl
    go_enter Tryz.func9, Tryz.ntmps9
    go_wp2
    go_ret
    exact ⟨ret_bool (decide_eq_false HN.out).symm, Below.refl _ _⟩
end Go.Proofs.YtjombaiplnebmaaGreatDoor
