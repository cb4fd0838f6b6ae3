/- Contracts of DropEntry. -/
import Derived.Test.YthoiljgpggldcaaM8
import Derived.Test.YthoiljgpggldcaaM12
import Derived.Test.YthoiljgpggldcaaM6
import Derived.Test.YthoiljgpggldcaaM3
open Go.RowKit
namespace Go.Proofs.Ythoiljgpggldcaa
set_option maxRecDepth 4000 in
set_option maxHeartbeats 1600000 in
theorem specDropEntry (A : Option Addr) (n c : Nat) (t : ByteArray) (xs : List (ByteArray × Int)) (w : World) (h : Rd w 2 A n (ens xs)) (hx : ∀ x ∈ xs, x.1.size ≤ maxLen) (hn : n ≤ 4194304) :
    Calls Try.prog 51 #[.slice A n c, .string t] w fun e w' => ∃ v, e = .returned (.tuple #[v, .bool (dropB xs t)]) ∧ w'.ownsRow w.heap.size 63 2 v (dropE xs t).length (ens (dropE xs t)) ∧ Below w.heap.size w w' := by
  have HL := Lib.hid h.enLen
  have HX := Lib.hid hx
  clear hx
  have hb0 : Below w.heap.size w (w.alloc (.cells #[] 63)) := (Below.refl _ _).alloc (Nat.le_refl _) _
  cases hv : entriesV xs
  · have HD := Lib.hid (dropE_no (t := t) hv)
    have HB : Hid (dropB xs t = false) := Lib.hid (by unfold dropB; rw [hv]; rfl)
    have HV := Lib.hid hv
    clear hv
    by_cases hn0 : n = 0
    · subst hn0
      go_enter Try.func51, Try.ntmps51
      go_wp2_with fail
      go_loopw [6, 7] (fun v i wr => v = .slice (some ⟨w.heap.size, 0, none⟩) 0 0 ∧ i = .int .i64 0 ∧ wr = w.alloc (.cells #[] 63)) (fun _ i _ => 0 - (intOf i).toNat)
      case atStart => exact ⟨rfl, rfl, rfl⟩
      case round =>
        obtain ⟨rfl, rfl, rfl⟩ := hrel
        go_wp2_with (go_at_call 38; refine (specEntriesValid _ _ _ xs _ (h.below hb0) HX.out hn).mono ?_; rintro e w1 ⟨rfl, k1, rfl⟩; rw [HV.out])
        refine bodyPost_ret (v := .tuple #[.slice (some ⟨w.heap.size, 0, none⟩) 0 0, .bool false]) (by simp [results, Try.results51, go_sem]) rfl ?_
        rw [HD.out, HB.out]
        exact ⟨_, rfl, own_empty w 63 2, below_to hb0 hb0.size (below_drewN _ _)⟩
    · have hlt0 : (0 : Int) < (n : Int) := by omega
      have hlt1 : 0 < n := by omega
      go_enter Try.func51, Try.ntmps51
      go_wp2_with fail
      go_loopw [6, 7] (fun v i wr => v = .slice (some ⟨w.heap.size, 0, none⟩) 0 0 ∧ i = .int .i64 0 ∧ wr = w.alloc (.cells #[] 63)) (fun _ i _ => 0 - (intOf i).toNat)
      case atStart => exact ⟨rfl, rfl, rfl⟩
      case round =>
        obtain ⟨rfl, rfl, rfl⟩ := hrel
        go_wp2_with (go_at_call 38; refine (specEntriesValid _ _ _ xs _ (by first | exact h.below hb0 | exact (h.below hb0).drewN _) HX.out hn).mono ?_; rintro e w1 ⟨rfl, k1, rfl⟩; rw [HV.out])
        refine bodyPost_ret (v := .tuple #[.slice (some ⟨w.heap.size, 0, none⟩) 0 0, .bool false]) (by simp [results, Try.results51, go_sem]) rfl ?_
        rw [HD.out, HB.out]
        exact ⟨_, rfl, own_empty w 63 2, by first | exact below_to hb0 hb0.size (below_drewN _ _) | exact below_to hb0 hb0.size (below_step (below_drewN _ _) (below_drewN _ _))⟩
  · have HV := Lib.hid hv
    have HD := Lib.hid (dropE_yes (t := t) hv)
    clear hv
    go_enter Try.func51, Try.ntmps51
    go_wp2_with fail
    go_loopw [6, 7] (fun v i wr => ∃ (k m : Nat), k ≤ n ∧ m = ((xs.take k).filter (notN t)).length ∧ m ≤ k ∧ i = .int .i64 (k : Int) ∧ wr.ownsRow w.heap.size 63 2 v m (ens ((xs.take k).filter (notN t))) ∧ Below w.heap.size w wr) (fun _ i _ => n - (intOf i).toNat)
    case atStart => exact ⟨0, 0, Nat.zero_le _, rfl, Nat.le_refl _, rfl, own_empty w 63 2, hb0⟩
    case round =>
      obtain ⟨k, m, hk, hm, hmk, rfl, hown, hb⟩ := hrel
      by_cases hlt : k < n
      · obtain ⟨bb, off, s, y, rfl, _, hxk, hd0, hd1⟩ := h.enAt hlt
        have hTK := take_snoc hxk
        have hltI : (k : Int) < (n : Int) := by omega
        by_cases hst : s = t
        · have heq : (s.toList != t.toList) = false := by rw [hst]; simp
          have heq2 : (s.toList == t.toList) = true := by rw [hst]; simp
          have HF : Hid ((xs.take (k + 1)).filter (notN t) = (xs.take k).filter (notN t)) := Lib.hid (by rw [hTK, List.filter_append]; simp [notN, hst])
          clear hxk hTK hst
          have HM := Lib.hid hm
          clear hm
          have HO := Lib.hid hown
          clear hown
          go_wp2_with (go_at_call 38; refine (specEntriesValid _ _ _ xs _ (h.below hb) HX.out hn).mono ?_; rintro e w1 ⟨rfl, k1, hw1⟩; rw [HV.out]; have hb1 : Below wr.heap.size wr w1 := by { rw [hw1]; exact below_drewN _ _ }; have hd0 := ((below_step hb hb1).cell (p := ⟨bb, off + k * 2, none⟩) (World.block_lt_of_cell? w _ hd0)).trans hd0; have hd1 := ((below_step hb hb1).cell (p := ⟨bb, off + k * 2 + 1, none⟩) (World.block_lt_of_cell? w _ hd1)).trans hd1; clear hw1)
          go_roundw
          case rel => exact ⟨k + 1, m, by omega, by rw [HF.out]; exact HM.out, by omega, by go_num, by rw [HF.out]; exact own_below HO.out hb1, below_step hb hb1⟩
          case measure => simp [intOf]; omega
        · have hne : (s.toList != t.toList) = true := by rw [bne, toList_nee hst]; rfl
          have hne2 : (s.toList == t.toList) = false := toList_nee hst
          have HF : Hid ((xs.take (k + 1)).filter (notN t) = (xs.take k).filter (notN t) ++ [(s, y)]) := Lib.hid (by rw [hTK, List.filter_append]; simp [notN, hst])
          have HM := Lib.hid hm
          clear hxk hTK hst hm
          generalize (xs.take k).filter (notN t) = fl at *
          go_wp2_with (first | (go_at_call 38; refine (specEntriesValid _ _ _ xs _ (h.below hb) HX.out hn).mono ?_; rintro e w1 ⟨rfl, k1, hw1⟩; rw [HV.out]; have hb1 : Below wr.heap.size wr w1 := by { rw [hw1]; exact below_drewN _ _ }; have hd0 := ((below_step hb hb1).cell (p := ⟨bb, off + k * 2, none⟩) (World.block_lt_of_cell? w _ hd0)).trans hd0; have hd1 := ((below_step hb hb1).cell (p := ⟨bb, off + k * 2 + 1, none⟩) (World.block_lt_of_cell? w _ hd1)).trans hd1; clear hw1) | (at_builtin; refine wpList_app1 _ rfl (.tmp 26) (.tmp 31) _ rfl w.heap.size 63 2 24 _ Try.underlying53 ens_info rfl (by omega) (by omega) _ m _ rfl (own_below hown hb1) _ rfl (one_en _ _) rfl (by omega) (Nat.le_trans hb.size hb1.size) ?_; intro v4 w4 hown4 hg4 _))
          rw [show ens fl ++ (#[Value.string s, Value.int .i64 y] : Array Value).toList = ens (fl ++ [(s, y)]) from by simp [ens]] at hown4
          have hb4 := (below_step hb hb1).grown hg4 (below_step hb hb1).size (fun k e => ((own_below hown hb1).lt k e).1)
          go_roundw
          case rel => exact ⟨k + 1, m + 1, by omega, by rw [HF.out, List.length_append, HM.out]; rfl, by omega, by go_num, by rw [HF.out]; exact hown4, hb4⟩
          case measure => simp [intOf]; omega
      · obtain rfl : k = n := by omega
        have hfull : xs.take k = xs := List.take_of_length_le (by rw [HL.out]; omega)
        rw [hfull] at hm hown
        obtain ⟨A6, c6, rfl, _⟩ := own_slice hown
        have hkk : decide ((k : Int) < (k : Int)) = false := decide_eq_false (by omega)
        have HBB : Hid (dropB xs t = decide (m < k)) := Lib.hid (by unfold dropB; rw [HV.out, HD.out, Bool.true_and, ← hm, HL.out])
        have HM := Lib.hid hm
        clear hm hfull
        go_wp2_with (go_at_call 38; refine (specEntriesValid _ _ _ xs _ (h.below hb) HX.out hn).mono ?_; rintro e w1 ⟨rfl, k1, rfl⟩; rw [HV.out])
        refine bodyPost_ret (v := .tuple #[.slice A6 m c6, .bool (decide (m < k))]) (by simp [results, Try.results51, go_sem]) rfl ?_
        rw [HBB.out, HD.out]
        refine ⟨_, rfl, ?_, below_to hb hb.size (below_drewN _ _)⟩
        rw [← HM.out]
        exact own_below hown (below_drewN _ _)
end Go.Proofs.Ythoiljgpggldcaa
