/- Contract of the specification's ReadFolder. -/
import Derived.Test.YthoiljgpggldcaaReadP
import Derived.Test.YthoiljgpggldcaaM10
import Derived.Test.YthoiljgpggldcaaM8
import Derived.Test.YthoiljgpggldcaaM3
import Derived.Deep.RegionHeld
import Derived.Deep.RegionLaw
open Go.RowKit
namespace Go.Proofs.Ythoiljgpggldcaa
theorem isE_of {s : ByteArray} (h : s ≠ ⟨#[]⟩) : s.toList.isEmpty = false := by
  rw [Lib.toList_data]
  cases hq : s.data.toList with
  | nil => exact absurd (ByteArray.ext (Array.toList_inj.1 hq)) h
  | cons c t => rfl
theorem at_ne {s : ByteArray} {k : Nat} {c : UInt8} (hk : k < s.size) (h : ¬ s[k].toNat = c.toNat) : s.data.toList[k]? ≠ some c := fun e => by
  rw [byte_at hk] at e
  exact h (by rw [Option.some.inj e])
theorem at_eq {s : ByteArray} {k : Nat} {c : UInt8} (hk : k < s.size) (h : s[k].toNat = c.toNat) : s.data.toList[k]? = some c := by
  rw [byte_at hk, UInt8.toNat_inj.1 h]
set_option maxRecDepth 40000 in
set_option maxHeartbeats 3200000 in
theorem specReadFolder (s : ByteArray) (w : World) (hs : s.size ≤ 1048576) :
    Calls Try.prog 50 #[.string s] w fun e w' => ∃ v ys ok, e = .returned (.tuple #[v, .bool ok]) ∧ ReadF s ys ok ∧ w'.ownsRow w.heap.size 63 2 v ys.length (ens ys) ∧ Below w.heap.size w w' := by
  have hb0 : Below w.heap.size w (w.alloc (.cells #[] 63)) := (Below.refl _ _).alloc (Nat.le_refl _) _
  have hll : s.data.toList.length = s.size := Array.length_toList ..
  go_enter Try.func50, Try.ntmps50
  go_wp2_with fail
  go_loopw [4, 5, 6, 7] (fun v i _ _ wr => ∃ (k : Nat) (ys : List (ByteArray × Int)), 1 ≤ k ∧ k ≤ s.size + 1 ∧ i = .int .i64 (k : Int) ∧ Hid (FoldAt s ys (s.data.toList.drop k)) ∧ ys.length ≤ k ∧ Hid (∀ x ∈ ys, x.1.size ≤ maxLen) ∧ wr.ownsRow w.heap.size 63 2 v ys.length (ens ys) ∧ Below w.heap.size w wr) (fun _ i _ _ _ => s.size + 1 - (intOf i).toNat)
  case atStart => exact ⟨1, [], Nat.le_refl _, by omega, rfl, Lib.hid (foldAt_start s), Nat.zero_le _, Lib.hid (fun _ h => by cases h), own_empty w 63 2, hb0⟩
  case round =>
    obtain ⟨k, ys, hk1, hk, rfl, HF, hyk, HX, hown, hB⟩ := hrel
    by_cases hlt : k < s.size
    · go_wp2_with fail
      go_loopw [6] (fun i W => ∃ g : Nat, k ≤ g ∧ g ≤ s.size ∧ i = .int .i64 (g : Int) ∧ Hid (∀ j, k ≤ j → j < g → s.data.toList[j]? ≠ some 61) ∧ W = wr) (fun i _ => s.size - (intOf i).toNat)
      case atStart => exact ⟨k, Nat.le_refl _, by omega, rfl, Lib.hid (fun j h1 h2 => by omega), rfl⟩
      case round =>
        obtain ⟨g, hkg, hg, rfl, HA, rfl⟩ := hrel
        by_cases hg1 : g < s.size
        · by_cases hc : s[g].toNat = 61
          · have HE : Hid (s.data.toList[g]? = some 61) := Lib.hid (at_eq hg1 hc)
            go_wp2_with fail
            go_loopw [7] (fun i W => ∃ h : Nat, g ≤ h ∧ h ≤ s.size ∧ i = .int .i64 (h : Int) ∧ Hid (∀ j, g ≤ j → j < h → s.data.toList[j]? ≠ some 59) ∧ W = wr) (fun i _ => s.size - (intOf i).toNat)
            case atStart => exact ⟨g, Nat.le_refl _, by omega, rfl, Lib.hid (fun j h1 h2 => by omega), rfl⟩
            case round =>
              obtain ⟨h, hgh, hh, rfl, HC, rfl⟩ := hrel
              by_cases hh1 : h < s.size
              · by_cases hd : s[h].toNat = 59
                · have HS : Hid (s.data.toList[h]? = some 59) := Lib.hid (at_eq hh1 hd)
                  have hlt2 : g < h := by
                    rcases Nat.lt_or_ge g h with h2 | h2
                    · exact h2
                    · have : g = h := by omega
                      subst this
                      omega
                  have hA := take_not HA.out
                  have hC : ∀ x ∈ (s.data.toList.drop (g + 1)).take (h - (g + 1)), x ≠ 59 := take_not (fun j h1 h2 => HC.out j (by omega) h2)
                  have e1 := drop_at HE.out hkg
                  have e2 := drop_at HS.out (show g + 1 ≤ h by omega)
                  have hFA := HF.out
                  rw [e1, e2] at hFA
                  have HN := Lib.hid (foldAt_step hFA hA hC)
                  rw [← ex_ofL, ← ex_ofL] at HN
                  clear hA hC e1 e2 hFA
                  have hsz1 : (s.extract k g).size ≤ 1048576 := by rw [ByteArray.size_extract]; omega
                  have hsz2 : (s.extract (g + 1) h).size ≤ maxLen := by rw [ByteArray.size_extract]; unfold maxLen; omega
                  have hownD : wr.drew.ownsRow w.heap.size 63 2 _ ys.length (ens ys) := hown
                  have hg00 : (0 : Int) ≤ (g : Int) + 1 := by omega
                  have hg0 : (g : Int) + 1 ≤ (h : Int) := by omega
                  have hw1 : IntKind.i64.wrap ((g : Int) + 1) = (g : Int) + 1 := IntWalk.i64_in _ (by omega)
                  have htn : ((g : Int) + 1).toNat = g + 1 := by omega
                  go_wp2_with fail
                  go_region_law (first | (go_simp; go_at_call 54; refine (specReadHex _ _ hsz2).mono ?_; rintro e w3 ⟨rfl, rfl⟩) | (refine step_app1 wr.drew rfl (.tmp 44) (.tmp 56) _ rfl w.heap.size 63 2 24 _ Try.underlying53 ens_info rfl (by omega) (by omega) u4 ys.length _ (by simp [Act.eval]) hownD #[.string (s.extract k g), .int .i64 (readH (s.extract (g + 1) h))] rfl (one_en _ _) (by simp [Act.eval]) (by omega) hB.size ?_; intro v4 w4 hown4 hg4 _))
                  rw [show ens ys ++ (#[Value.string (s.extract k g), Value.int .i64 (readH (s.extract (g + 1) h))] : Array Value).toList = ens (ys ++ [(s.extract k g, readH (s.extract (g + 1) h))]) from by simp [ens]] at hown4
                  have hB4 := hB.grown (⟨hg4.os, hg4.tape, hg4.output, hg4.size, hg4.block⟩ : wr.grownBy w4 _) hB.size (fun j e => (hown.lt j e).1)
                  have HX' : Hid (∀ x ∈ ys ++ [(s.extract k g, readH (s.extract (g + 1) h))], x.1.size ≤ maxLen) := Lib.hid (fun x hx => by
                    rcases List.mem_append.1 hx with hx | hx
                    · exact HX.out x hx
                    · rw [List.mem_singleton.1 hx]
                      exact Nat.le_trans hsz1 (by unfold maxLen; omega))
                  have hl2 : (ys ++ [(s.extract k g, readH (s.extract (g + 1) h))]).length = ys.length + 1 := by rw [List.length_append]; rfl
                  rw [← hl2] at hown4
                  generalize ys ++ [(s.extract k g, readH (s.extract (g + 1) h))] = zs at *
                  have hl3 : zs.length ≤ h + 1 := by omega
                  clear hl2
                  go_wp2_with fail
                  go_roundw
                  case rel => exact ⟨h + 1, zs, by omega, by omega, by go_num, HN, hl3, HX', hown4, hB4⟩
                  case measure => simp [intOf]; omega
                · have HC' : Hid (∀ j, g ≤ j → j < h + 1 → s.data.toList[j]? ≠ some 59) := Lib.hid (fun j h1 h2 => by
                    rcases Nat.lt_or_ge j h with h3 | h3
                    · exact HC.out j h1 h3
                    · obtain rfl : j = h := by omega
                      exact at_ne hh1 hd)
                  go_wp2_with fail
                  go_roundw
                  case rel => exact ⟨h + 1, by omega, by omega, by go_num, HC', trivial⟩
                  case measure => simp [intOf]; omega
              · obtain rfl : h = s.size := by omega
                have e1 := drop_at HE.out hkg
                have hFA := HF.out
                rw [e1] at hFA
                have HR := Lib.hid (foldAt_late hFA (take_not HA.out) (drop_not (fun j h1 h2 => HC.out j (by omega) (by omega))))
                clear e1 hFA
                go_wp2_with fail
                refine bodyPost_ret (v := .tuple #[.slice (some ⟨wr.heap.size, 0, none⟩) 0 0, .bool false]) (by simp [results, Try.results50, go_sem]) rfl ?_
                exact ⟨_, [], false, rfl, HR.out, own_base (own_empty wr 63 2) hB.size, hB.alloc hB.size _⟩
          · have HA' : Hid (∀ j, k ≤ j → j < g + 1 → s.data.toList[j]? ≠ some 61) := Lib.hid (fun j h1 h2 => by
              rcases Nat.lt_or_ge j g with h3 | h3
              · exact HA.out j h1 h3
              · obtain rfl : j = g := by omega
                exact at_ne hg1 hc)
            go_wp2_with fail
            go_roundw
            case rel => exact ⟨g + 1, by omega, by omega, by go_num, HA', trivial⟩
            case measure => simp [intOf]; omega
        · obtain rfl : g = s.size := by omega
          have hne : s.data.toList.drop k ≠ [] := fun e => by
            have := congrArg List.length e
            rw [List.length_drop, hll] at this
            simp at this
            omega
          have HR := Lib.hid (foldAt_no61 HF.out hne (drop_not (fun j h1 h2 => HA.out j h1 (by omega))))
          clear hne
          go_wp2_with fail
          go_loopw [7] (fun i W => i = .int .i64 (s.size : Int) ∧ W = wr) (fun _ _ => 0)
          case atStart => exact ⟨rfl, rfl⟩
          case round =>
            obtain ⟨rfl, rfl⟩ := hrel
            go_wp2_with fail
            refine bodyPost_ret (v := .tuple #[.slice (some ⟨wr.heap.size, 0, none⟩) 0 0, .bool false]) (by simp [results, Try.results50, go_sem]) rfl ?_
            exact ⟨_, [], false, rfl, HR.out, own_base (own_empty wr 63 2) hB.size, hB.alloc hB.size _⟩
    · have HE : Hid (FoldAt s ys []) := Lib.hid (by have := HF.out; rw [List.drop_of_length_le (by omega)] at this; exact this)
      obtain ⟨A6, c6, rfl, _⟩ := own_slice hown
      go_wp2_with fail
      refine (specFolderText _ _ _ ys _ (Rd.own hown) HX.out (by omega)).mono ?_
      rintro e w2 ⟨rfl, k2, rfl⟩
      by_cases hf : folderT ys = s
      · by_cases hs0 : s = ⟨#[]⟩
        · have hem : s.toList.isEmpty = true := by rw [hs0, Lib.toList_data]; rfl
          have heq : (s.toList == s.toList) = true := by simp
          have hneq : (s.toList != s.toList) = false := by simp
          have HR : Hid (ReadF s [] false) := Lib.hid (readF_bad fun es hv he => by
            have := folderT_list hv he
            rw [hs0] at this
            cases this)
          rw [hf]
          clear hs0 hf
          go_wp2_with fail
          refine bodyPost_ret (v := .tuple #[.slice (some ⟨wr.heap.size, 0, none⟩) 0 0, .bool false]) (by simp [results, Try.results50, go_sem]) rfl ?_
          exact ⟨_, [], false, rfl, HR.out, own_base (own_empty (wr.drewN k2) 63 2) hB.size, (below_to hB hB.size (below_drewN wr k2)).alloc hB.size _⟩
        · have hem := isE_of hs0
          have heq : (s.toList == s.toList) = true := by simp
          have hneq : (s.toList != s.toList) = false := by simp
          have HR := Lib.hid (foldAt_end hs0 hf)
          rw [hf]
          clear hs0 hf
          go_wp2_with fail
          refine bodyPost_ret (v := .tuple #[.slice A6 ys.length c6, .bool true]) (by simp [results, Try.results50, go_sem]) rfl ?_
          exact ⟨_, ys, true, rfl, HR.out, own_below hown (below_drewN wr k2), below_to hB hB.size (below_drewN wr k2)⟩
      · have HR := Lib.hid (foldAt_not HE.out hf)
        have hneq := toList_eqh hf
        have hneq2 : ((folderT ys).toList != s.toList) = true := by rw [bne, hneq]; rfl
        clear hf
        go_wp2_with fail
        refine bodyPost_ret (v := .tuple #[.slice (some ⟨wr.heap.size, 0, none⟩) 0 0, .bool false]) (by simp [results, Try.results50, go_sem]) rfl ?_
        exact ⟨_, [], false, rfl, HR.out, own_base (own_empty (wr.drewN k2) 63 2) hB.size, (below_to hB hB.size (below_drewN wr k2)).alloc hB.size _⟩
end Go.Proofs.Ythoiljgpggldcaa
