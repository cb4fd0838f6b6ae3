/- Contracts of the functions on chunks. -/
import Derived.Test.YtkkihjmlinekfaaInts
import Derived.Test.YtkkihjmlinekfaaStrs
import Derived.Test.YtkkihjmlinekfaaAppend
import Derived.Test.YtkkihjmlinekfaaChunkP
open Go.RowKit
namespace Go.Proofs.Ytkkihjmlinekfaa
theorem chunkEnds (m c : Int) (w : World) (h0 : 0 ≤ c) : Calls Try.prog 95 #[.int .i64 m, .int .u8 c] w fun e w' => e = .returned (.bool (cutI m c)) ∧ w = w' := by
  by_cases h6 : 6 ≤ m
  · go_enter Try.func95, Try.ntmps95
    go_wp2
    go_ret
    exact ⟨ret_bool (by unfold cutI; rw [decide_eq_true h6]; rfl), rfl⟩
  · by_cases h2 : 2 ≤ m
    · by_cases h4 : c % 4 = 0
      · have h4' : (c % 4 == 0) = true := by simpa using h4
        have HB := Lib.hid (show cutI m c = true by unfold cutI; rw [decide_eq_true h2, decide_eq_true h4]; simp)
        clear h4
        go_enter Try.func95, Try.ntmps95
        go_wp2
        go_ret
        exact ⟨ret_bool HB.out.symm, rfl⟩
      · have h4' : (c % 4 == 0) = false := by simpa using h4
        have HB := Lib.hid (show cutI m c = false by unfold cutI; rw [decide_eq_false h6, decide_eq_false h4]; simp)
        clear h4
        go_enter Try.func95, Try.ntmps95
        go_wp2
        go_ret
        exact ⟨ret_bool HB.out.symm, rfl⟩
    · have HB := Lib.hid (show cutI m c = false by unfold cutI; rw [decide_eq_false h6, decide_eq_false h2]; simp)
      go_enter Try.func95, Try.ntmps95
      go_wp2
      go_ret
      exact ⟨ret_bool HB.out.symm, rfl⟩
set_option maxHeartbeats 1600000 in
theorem implChunkEnds (s : ByteArray) (w : World) (hs : s.size ≤ maxLen) :
    Calls Try.prog 79 #[.string s] w fun e w' => ∃ v, e = .returned v ∧ w'.ownsRow w.heap.size 3 1 v (chunkE s).length (ints (natI (chunkE s))) ∧ Below w.heap.size w w' := by
  cases ht : textV (bts s)
  · have HT := Lib.hid ht
    have HE := Lib.hid (chunkE_no ht)
    clear ht
    go_enter Try.func79, Try.ntmps79
    go_wp2_with (go_at_call 39; refine (implTextValid _ _ hs).mono ?_; rintro e w' ⟨rfl, rfl⟩; rw [HT.out])
    go_ret
    exact ⟨_, rfl, by rw [HE.out]; exact World.ownsRow_nil _ _ _ _, Below.refl _ _⟩
  · have HT := Lib.hid ht
    have HE := Lib.hid (chunkE_yes ht)
    have h60 : s.size ≤ 60 := by
      unfold textV at ht
      rw [Bool.and_eq_true, bts_length] at ht
      exact of_decide_eq_true ht.2
    clear ht
    go_enter Try.func79, Try.ntmps79
    go_wp2_with (go_at_call 39; refine (implTextValid _ _ hs).mono ?_; rintro e w' ⟨rfl, rfl⟩; rw [HT.out])
    go_loopw [3, 4, 5] (fun v b i wr => ∃ (k b' : Nat) (acc : List Nat), k ≤ s.size ∧ b' ≤ k ∧ i = .int .i64 (k : Int) ∧ b = .int .i64 (b' : Int) ∧ acc.length ≤ k ∧ wr.ownsRow w.heap.size 3 1 v acc.length (ints (natI acc)) ∧ Hid (acc ++ endsF ((bts s).drop k) k (k - b') = chunkE s) ∧ Below w.heap.size w wr) (fun _ _ i _ => s.size - (intOf i).toNat)
    case atStart => exact ⟨0, 0, [], Nat.zero_le _, Nat.le_refl _, rfl, rfl, Nat.le_refl _, World.ownsRow_nil _ _ _ _, Lib.hid (by rw [HE.out]; rfl), Below.refl _ _⟩
    case round =>
      obtain ⟨k, b, acc, hk, hb, rfl, rfl, hal, hown, hR, hbel⟩ := hrel
      have hGs := hbel.size
      by_cases hlt : k < s.size
      · have hR' := hR.out
        rw [bts_drop hlt] at hR'
        have hc0 : (0 : Int) ≤ (s[k].toNat : Int) := Int.natCast_nonneg _
        have hcut := cutB_int k b s[k] hb
        have hlt' : (k : Int) < (s.size : Int) := by omega
        clear hR
        cases hcb : cutB (k - b + 1) s[k]
        · have HC := Lib.hid (hcut.trans hcb)
          clear hcut
          by_cases hlast : k + 1 = s.size
          · rw [endsF_last (bts_drop_nil (by omega))] at hR'
            have hl2 : ((k : Int) == (s.size : Int) - 1) = true := by simp; omega
            have HR := Lib.hid (show (acc ++ [k + 1]) ++ endsF ((bts s).drop (k + 1)) (k + 1) (k + 1 - (k + 1)) = chunkE s by rw [snoc_cons', Nat.sub_self]; exact hR')
            clear hR' hcb
            go_wp2_with (first | (go_at_call 95; refine (chunkEnds _ _ _ hc0).mono ?_; rintro e w' ⟨rfl, rfl⟩; rw [HC.out]) | (at_builtin; refine wpList_app1 _ rfl (.tmp 32) (.tmp 34) _ rfl w.heap.size 3 1 8 (.int .i64 0) Try.underlying42 int_info rfl (by omega) (by omega) _ acc.length _ rfl hown _ rfl (one_int _) rfl (by omega) hGs ?_; intro v1 w1 hown1 hg1 _))
            have hb1 := below_app hbel hown hg1 hGs
            rw [show ints (natI acc) ++ (#[Value.int .i64 ((k : Int) + 1)] : Array Value).toList = ints (natI (acc ++ [k + 1])) from by rw [natI_snoc]; simp [ints]] at hown1
            go_wp2
            go_roundw
            case rel => exact ⟨k + 1, k + 1, acc ++ [k + 1], by omega, Nat.le_refl _, by go_num, by go_num, by rw [List.length_append]; simp; omega, by rw [List.length_append]; exact hown1, HR, hb1⟩
            case measure => simp [intOf]; omega
          · rw [endsF_on hcb (bts_drop_ne (by omega))] at hR'
            have hl2 : ((k : Int) == (s.size : Int) - 1) = false := by simp; omega
            have HR := Lib.hid (show acc ++ endsF ((bts s).drop (k + 1)) (k + 1) (k + 1 - b) = chunkE s by rw [show k + 1 - b = k - b + 1 from by omega]; exact hR')
            clear hR' hcb
            go_wp2_with (first | (go_at_call 95; refine (chunkEnds _ _ _ hc0).mono ?_; rintro e w' ⟨rfl, rfl⟩; rw [HC.out]))
            go_roundw
            case rel => exact ⟨k + 1, b, acc, by omega, by omega, by go_num, rfl, by omega, hown, HR, hbel⟩
            case measure => simp [intOf]; omega
        · have HC := Lib.hid (hcut.trans hcb)
          clear hcut
          rw [endsF_cut hcb] at hR'
          have HR := Lib.hid (show (acc ++ [k + 1]) ++ endsF ((bts s).drop (k + 1)) (k + 1) (k + 1 - (k + 1)) = chunkE s by rw [snoc_cons', Nat.sub_self]; exact hR')
          clear hR' hcb
          go_wp2_with (first | (go_at_call 95; refine (chunkEnds _ _ _ hc0).mono ?_; rintro e w' ⟨rfl, rfl⟩; rw [HC.out]) | (at_builtin; refine wpList_app1 _ rfl (.tmp 32) (.tmp 34) _ rfl w.heap.size 3 1 8 (.int .i64 0) Try.underlying42 int_info rfl (by omega) (by omega) _ acc.length _ rfl hown _ rfl (one_int _) rfl (by omega) hGs ?_; intro v1 w1 hown1 hg1 _))
          have hb1 := below_app hbel hown hg1 hGs
          rw [show ints (natI acc) ++ (#[Value.int .i64 ((k : Int) + 1)] : Array Value).toList = ints (natI (acc ++ [k + 1])) from by rw [natI_snoc]; simp [ints]] at hown1
          go_wp2
          go_roundw
          case rel => exact ⟨k + 1, k + 1, acc ++ [k + 1], by omega, Nat.le_refl _, by go_num, by go_num, by rw [List.length_append]; simp; omega, by rw [List.length_append]; exact hown1, HR, hb1⟩
          case measure => simp [intOf]; omega
      · have hR' := hR.out
        rw [bts_drop_nil (by omega)] at hR'
        have HR := Lib.hid (show acc = chunkE s by rw [← hR']; simp [endsF])
        clear hR hR'
        go_wp2
        go_ret
        exact ⟨_, rfl, by rw [← HR.out]; exact hown, hbel⟩
set_option maxHeartbeats 1600000 in
theorem specChunkEnds (s : ByteArray) (w : World) (hs : s.size ≤ maxLen) :
    Calls Try.prog 80 #[.string s] w fun e w' => ∃ v, e = .returned v ∧ w'.ownsRow w.heap.size 3 1 v (chunkE s).length (ints (natI (chunkE s))) ∧ Below w.heap.size w w' := by
  cases ht : textV (bts s)
  · have HT := Lib.hid ht
    have HE := Lib.hid (chunkE_no ht)
    clear ht
    have hb := hs
    unfold maxLen at hb
    go_enter Try.func80, Try.ntmps80
    go_wp2
    go_loopw [3, 4, 5] (fun v m i wr => v = .slice (some ⟨w.heap.size, 0, none⟩) 0 0 ∧ m = .int .i64 0 ∧ i = .int .i64 0 ∧ wr = w.alloc (.cells #[] 3)) (fun _ _ i _ => s.size - (intOf i).toNat)
    case atStart => exact ⟨rfl, rfl, rfl, rfl⟩
    case round =>
      obtain ⟨rfl, rfl, rfl, rfl⟩ := hrel
      go_wp2_with (go_at_call 67; refine (specTextValid _ _ hs).mono ?_; rintro e w' ⟨rfl, rfl⟩; rw [HT.out])
      all_goals
        go_ret
        exact ⟨_, rfl, by rw [HE.out]; exact own_empty _ _ _, (Below.refl _ _).alloc (Nat.le_refl _) _⟩
  · have HT := Lib.hid ht
    have HE := Lib.hid (chunkE_yes ht)
    have h60 : s.size ≤ 60 := by
      unfold textV at ht
      rw [Bool.and_eq_true, bts_length] at ht
      exact of_decide_eq_true ht.2
    clear ht
    go_enter Try.func80, Try.ntmps80
    go_wp2
    go_loopw [3, 4, 5] (fun v m i wr => ∃ (k m' : Nat) (acc : List Nat), k ≤ s.size ∧ m' ≤ 5 ∧ m' ≤ k ∧ i = .int .i64 (k : Int) ∧ m = .int .i64 (m' : Int) ∧ acc.length ≤ k ∧ wr.ownsRow w.heap.size 3 1 v acc.length (ints (natI acc)) ∧ Hid (acc ++ endsF ((bts s).drop k) k m' = chunkE s) ∧ Below w.heap.size w wr) (fun _ _ i _ => s.size - (intOf i).toNat)
    case atStart => exact ⟨0, 0, [], Nat.zero_le _, by omega, Nat.le_refl _, rfl, rfl, Nat.le_refl _, own_empty _ _ _, Lib.hid (by rw [HE.out]; rfl), (Below.refl _ _).alloc (Nat.le_refl _) _⟩
    case round =>
      obtain ⟨k, m, acc, hk, hm5, hmk, rfl, rfl, hal, hown, hR, hbel⟩ := hrel
      have hGs := hbel.size
      by_cases hlt : k < s.size
      · have hR' := hR.out
        rw [bts_drop hlt] at hR'
        have hc0 : (0 : Int) ≤ (s[k].toNat : Int) := Int.natCast_nonneg _
        have hlt' : (k : Int) < (s.size : Int) := by omega
        clear hR
        have happ : ∀ (W : World) (v1 : Value) (w1 : World), True → True := fun _ _ _ h => h
        clear happ
        by_cases h6 : m = 5
        · rw [endsF_cut (by unfold cutB; rw [decide_eq_true (by omega)]; rfl)] at hR'
          have HR := Lib.hid (show (acc ++ [k + 1]) ++ endsF ((bts s).drop (k + 1)) (k + 1) 0 = chunkE s by rw [snoc_cons']; exact hR')
          have h6' : ((m : Int) + 1 == 6) = true := by simp; omega
          clear hR'
          go_wp2_with (first | (go_at_call 67; refine (specTextValid _ _ hs).mono ?_; rintro e w' ⟨rfl, rfl⟩; rw [HT.out]) | (at_builtin; refine wpList_app1 _ rfl (.tmp 39) (.tmp 42) _ rfl w.heap.size 3 1 8 (.int .i64 0) Try.underlying42 int_info rfl (by omega) (by omega) _ acc.length _ rfl hown _ rfl (one_int _) rfl (by omega) hGs ?_; intro v1 w1 hown1 hg1 _))
          have hb1 := below_app hbel hown hg1 hGs
          rw [show ints (natI acc) ++ (#[Value.int .i64 ((k : Int) + 1)] : Array Value).toList = ints (natI (acc ++ [k + 1])) from by rw [natI_snoc]; simp [ints]] at hown1
          go_wp2
          go_roundw
          case rel => exact ⟨k + 1, 0, acc ++ [k + 1], by omega, by omega, by omega, by go_num, rfl, by rw [List.length_append]; simp; omega, by rw [List.length_append]; exact hown1, HR, hb1⟩
          case measure => simp [intOf]; omega
        · have h6' : ((m : Int) + 1 == 6) = false := by simp; omega
          by_cases hcut : 1 ≤ m ∧ (s[k].toNat : Int) % 4 = 0
          · obtain ⟨hc1, hc2⟩ := hcut
            rw [endsF_cut (by unfold cutB; rw [decide_eq_true (show 2 ≤ m + 1 by omega), decide_eq_true hc2]; simp)] at hR'
            have HR := Lib.hid (show (acc ++ [k + 1]) ++ endsF ((bts s).drop (k + 1)) (k + 1) 0 = chunkE s by rw [snoc_cons']; exact hR')
            have hc2' : ((s[k].toNat : Int) % 4 == 0) = true := by simpa using hc2
            have HC := Lib.hid hc2
            clear hR' hc2
            go_wp2_with (first | (go_at_call 67; refine (specTextValid _ _ hs).mono ?_; rintro e w' ⟨rfl, rfl⟩; rw [HT.out]) | (at_builtin; refine wpList_app1 _ rfl (.tmp 39) (.tmp 42) _ rfl w.heap.size 3 1 8 (.int .i64 0) Try.underlying42 int_info rfl (by omega) (by omega) _ acc.length _ rfl hown _ rfl (one_int _) rfl (by omega) hGs ?_; intro v1 w1 hown1 hg1 _))
            have hb1 := below_app hbel hown hg1 hGs
            rw [show ints (natI acc) ++ (#[Value.int .i64 ((k : Int) + 1)] : Array Value).toList = ints (natI (acc ++ [k + 1])) from by rw [natI_snoc]; simp [ints]] at hown1
            go_wp2
            go_roundw
            case rel => exact ⟨k + 1, 0, acc ++ [k + 1], by omega, by omega, by omega, by go_num, rfl, by rw [List.length_append]; simp; omega, by rw [List.length_append]; exact hown1, HR, hb1⟩
            case measure => simp [intOf]; omega
          · have hcf : cutB (m + 1) s[k] = false := by
              unfold cutB
              rw [decide_eq_false (by omega), Bool.false_or]
              by_cases h1 : 1 ≤ m
              · rw [decide_eq_false (fun h => hcut ⟨h1, h⟩), Bool.and_false]
              · rw [decide_eq_false (by omega), Bool.false_and]
            have hmod : 1 ≤ m → ((s[k].toNat : Int) % 4 == 0) = false := fun h1 => by simpa using fun h => hcut ⟨h1, h⟩
            have HCUT := Lib.hid hcut
            clear hcut
            by_cases hlast : k + 1 = s.size
            · rw [endsF_last (bts_drop_nil (by omega))] at hR'
              have hl2 : ((k : Int) + 1 == (s.size : Int)) = true := by simp; omega
              have HR := Lib.hid (show (acc ++ [k + 1]) ++ endsF ((bts s).drop (k + 1)) (k + 1) 0 = chunkE s by rw [snoc_cons']; exact hR')
              clear hR' hcf
              rcases Nat.eq_zero_or_pos m with hm0 | hm1
              · subst hm0
                clear hmod
                go_wp2_with (first | (go_at_call 67; refine (specTextValid _ _ hs).mono ?_; rintro e w' ⟨rfl, rfl⟩; rw [HT.out]) | (at_builtin; refine wpList_app1 _ rfl (.tmp 39) (.tmp 42) _ rfl w.heap.size 3 1 8 (.int .i64 0) Try.underlying42 int_info rfl (by omega) (by omega) _ acc.length _ rfl hown _ rfl (one_int _) rfl (by omega) hGs ?_; intro v1 w1 hown1 hg1 _))
                have hb1 := below_app hbel hown hg1 hGs
                rw [show ints (natI acc) ++ (#[Value.int .i64 ((k : Int) + 1)] : Array Value).toList = ints (natI (acc ++ [k + 1])) from by rw [natI_snoc]; simp [ints]] at hown1
                go_wp2
                go_roundw
                case rel => exact ⟨k + 1, 0, acc ++ [k + 1], by omega, by omega, by omega, by go_num, rfl, by rw [List.length_append]; simp; omega, by rw [List.length_append]; exact hown1, HR, hb1⟩
                case measure => simp [intOf]; omega
              · have hmd := hmod hm1
                clear hmod
                go_wp2_with (first | (go_at_call 67; refine (specTextValid _ _ hs).mono ?_; rintro e w' ⟨rfl, rfl⟩; rw [HT.out]) | (at_builtin; refine wpList_app1 _ rfl (.tmp 39) (.tmp 42) _ rfl w.heap.size 3 1 8 (.int .i64 0) Try.underlying42 int_info rfl (by omega) (by omega) _ acc.length _ rfl hown _ rfl (one_int _) rfl (by omega) hGs ?_; intro v1 w1 hown1 hg1 _))
                have hb1 := below_app hbel hown hg1 hGs
                rw [show ints (natI acc) ++ (#[Value.int .i64 ((k : Int) + 1)] : Array Value).toList = ints (natI (acc ++ [k + 1])) from by rw [natI_snoc]; simp [ints]] at hown1
                go_wp2
                go_roundw
                case rel => exact ⟨k + 1, 0, acc ++ [k + 1], by omega, by omega, by omega, by go_num, rfl, by rw [List.length_append]; simp; omega, by rw [List.length_append]; exact hown1, HR, hb1⟩
                case measure => simp [intOf]; omega
            · rw [endsF_on hcf (bts_drop_ne (by omega))] at hR'
              have hl2 : ((k : Int) + 1 == (s.size : Int)) = false := by simp; omega
              have HR := Lib.hid hR'
              clear hR' hcf
              rcases Nat.eq_zero_or_pos m with hm0 | hm1
              · subst hm0
                clear hmod
                go_wp2_with (first | (go_at_call 67; refine (specTextValid _ _ hs).mono ?_; rintro e w' ⟨rfl, rfl⟩; rw [HT.out]))
                go_roundw
                case rel => exact ⟨k + 1, 1, acc, by omega, by omega, by omega, by go_num, by go_num, by omega, hown, HR, hbel⟩
                case measure => simp [intOf]; omega
              · have hmd := hmod hm1
                clear hmod
                go_wp2_with (first | (go_at_call 67; refine (specTextValid _ _ hs).mono ?_; rintro e w' ⟨rfl, rfl⟩; rw [HT.out]))
                go_roundw
                case rel => exact ⟨k + 1, m + 1, acc, by omega, by omega, by omega, by go_num, by go_num, by omega, hown, HR, hbel⟩
                case measure => simp [intOf]; omega
      · have hR' := hR.out
        rw [bts_drop_nil (by omega)] at hR'
        have HR := Lib.hid (show acc = chunkE s by rw [← hR']; simp [endsF])
        clear hR hR'
        go_wp2
        go_ret
        exact ⟨_, rfl, by rw [← HR.out]; exact hown, hbel⟩
end Go.Proofs.Ytkkihjmlinekfaa
