/- The texts Folder ReadHP ReadHex as one. -/
import Derived.Test.YthoiljgpggldcaaFoldP
import Derived.Test.YthoiljgpggldcaaM9
import Derived.Test.YthoiljgpggldcaaM6
import Derived.Deep.RegionHeld
import Derived.Deep.QuietTactic
import Derived.Test.YthoiljgpggldcaaHexP
/- Contracts of both FolderText. -/
open Go.RowKit
namespace Go.Proofs.Ythoiljgpggldcaa
theorem fold_take {xs : List (ByteArray × Int)} {k : Nat} {x : ByteArray × Int} (h : xs[k]? = some x) : (100 :: foldL (xs.take (k + 1)) : List UInt8) = (100 :: foldL (xs.take k)) ++ lineL x := by
  rw [take_snoc h, foldL_snoc]
  rfl
theorem line_add (l : List UInt8) (x : ByteArray) (p : Int) : ofL l ++ x ++ (⟨#[61]⟩ : ByteArray) ++ hexT p ++ (⟨#[59]⟩ : ByteArray) = ofL (l ++ lineL (x, p)) := by
  refine ByteArray.ext (Array.toList_inj.1 ?_)
  simp [ofL_data, lineL]
theorem line_add2 (l : List UInt8) (x : ByteArray) (p : Int) : ofL l ++ (x ++ (⟨#[61]⟩ : ByteArray) ++ hexT p ++ (⟨#[59]⟩ : ByteArray)) = ofL (l ++ lineL (x, p)) := by
  refine ByteArray.ext (Array.toList_inj.1 ?_)
  simp [ofL_data, lineL]
theorem fold_size {xs : List (ByteArray × Int)} (h : entriesV xs = true) (k : Nat) : (ofL (100 :: foldL (xs.take k))).size ≤ 60 := by
  have h1 := (foldL_text xs (entriesV_ok h)).2
  have h2 := entriesV_len h
  have h3 : foldL xs = foldL (xs.take k) ++ foldL (xs.drop k) := by
    unfold foldL
    rw [← List.flatten_append, ← List.map_append, List.take_append_drop]
  have h4 := congrArg List.length h3
  rw [List.length_append] at h4
  show (100 :: foldL (xs.take k) : List UInt8).toArray.size ≤ 60
  rw [List.size_toArray, List.length_cons]
  omega
set_option maxRecDepth 8000 in
set_option maxHeartbeats 1600000 in
theorem specFolderText (A : Option Addr) (n c : Nat) (xs : List (ByteArray × Int)) (w : World) (h : Rd w 2 A n (ens xs)) (hx : ∀ x ∈ xs, x.1.size ≤ maxLen) (hn : n ≤ 4194304) :
    Calls Try.prog 30 #[.slice A n c] w fun e w' => e = .returned (.string (folderT xs)) ∧ ∃ k, w' = w.drewN k := by
  have HL := Lib.hid h.enLen
  have HX := Lib.hid hx
  clear hx
  go_enter Try.func30, Try.ntmps30
  go_wp2_with fail
  refine (specEntriesValid _ _ _ xs _ h HX.out hn).mono ?_
  rintro e w1 ⟨rfl, k1, rfl⟩
  cases hv : entriesV xs
  · have HT := Lib.hid (folderT_out hv)
    clear hv
    go_wp2_with fail
    go_ret
    exact ⟨ret_str HT.out.symm, k1, rfl⟩
  · have HT := Lib.hid (folderT_in hv)
    have HV := Lib.hid hv
    have h3 := entriesV_len hv
    clear hv
    go_wp2_with fail
    go_loopw [3, 4] (fun o i wr => ∃ k : Nat, k ≤ n ∧ i = .int .i64 (k : Int) ∧ o = .string (ofL (100 :: foldL (xs.take k))) ∧ ∃ j, Hid (wr = w.drewN j)) (fun _ i _ => n - (intOf i).toNat)
    case atStart => exact ⟨0, Nat.zero_le _, rfl, rfl, k1, Lib.hid rfl⟩
    case round =>
      obtain ⟨k, hk, rfl, rfl, j, HW⟩ := hrel
      by_cases hlt : k < n
      · obtain ⟨b, off, s, p, rfl, hbb, hxk, hc0, hc1⟩ := h.enAt hlt
        have hltI : (k : Int) < (n : Int) := by omega
        have hcw0 : wr.cell? ⟨b, off + k * 2, none⟩ = some (.string s) := by rw [HW.out]; exact hc0
        have hcw1 : wr.cell? ⟨b, off + k * 2 + 1, none⟩ = some (.int .i64 p) := by rw [HW.out]; exact hc1
        have HF := Lib.hid (fold_take hxk)
        have hz1 := fold_size HV.out k
        have hz2 := hexT_size p
        have hs8 : s.size ≤ 8 := by
          have := (entriesV_ok HV.out (s, p) (List.mem_of_getElem? hxk)).word
          unfold wordV at this
          rw [Bool.and_eq_true] at this
          have h2 := (of_decide_eq_true this.1).2
          rw [bts_length] at h2
          exact h2
        have HA := Lib.hid (line_add (100 :: foldL (xs.take k)) s p)
        have HZ := Lib.hid (rfl : ofL (100 :: foldL (xs.take k)) = ofL (100 :: foldL (xs.take k)))
        clear hxk hc0 hc1
        generalize ofL (100 :: foldL (xs.take k)) = o at *
        go_wp2_with fail
        go_region_held (fun W => W.cell? ⟨b, off + k * 2, none⟩ = some (.string s) ∧ W.cell? ⟨b, off + k * 2 + 1, none⟩ = some (.int .i64 p)) (exact ⟨hcw0, hcw1⟩) (first | (go_at_call 39; refine (specHexText p _).mono ?_; rintro e w3 ⟨rfl, rfl⟩))
        all_goals
          go_wp2_with fail
          go_roundw
          case rel => exact ⟨k + 1, by omega, by go_num, by rw [HA.out, HF.out], j + 1, Lib.hid (by rw [HW.out]; rfl)⟩
          case measure => simp [intOf]; omega
      · obtain rfl : k = n := by omega
        have HE : Hid (folderT xs = ofL (100 :: foldL (xs.take k))) := Lib.hid (by rw [HT.out, List.take_of_length_le (by rw [HL.out]; omega)])
        go_wp2_with fail
        go_ret
        exact ⟨ret_str HE.out.symm, j, HW.out⟩
end Go.Proofs.Ythoiljgpggldcaa
/- Plain words: what reading a hexadecimal number comes to. -/
open Go.RowKit
namespace Go.Proofs.Ythoiljgpggldcaa
theorem hex_dig {c : UInt8} (h : digitB c.toNat = true) : isHex c = true ∧ valC c = c.toNat - 48 ∧ 48 ≤ c.toNat ∧ c.toNat ≤ 57 := by
  have h2 : (48 : Int) ≤ c.toNat ∧ (c.toNat : Int) ≤ 57 := of_decide_eq_true h
  refine ⟨by unfold isHex; rw [h]; rfl, if_pos h, by omega, by omega⟩
theorem hex_low {c : UInt8} (h1 : 97 ≤ c.toNat) (h2 : c.toNat ≤ 102) : isHex c = true ∧ valC c = c.toNat - 87 := by
  have hl : lowB c.toNat = true := decide_eq_true ⟨by omega, by omega⟩
  have hd : ¬ digitB c.toNat = true := fun h => by
    have := (hex_dig h).2.2.2
    omega
  exact ⟨by unfold isHex; rw [hl, Bool.or_true], if_neg hd⟩
theorem hex_not {c : UInt8} (h : digitB c.toNat = false) (h2 : ¬ (97 ≤ c.toNat ∧ c.toNat ≤ 102)) : isHex c = false := by
  have hl : lowB c.toNat = false := decide_eq_false fun h => h2 ⟨by omega, by omega⟩
  unfold isHex
  rw [h, hl]
  rfl
theorem dig_false {c : UInt8} (h : ¬ (48 ≤ c.toNat ∧ c.toNat ≤ 57)) : digitB c.toNat = false := decide_eq_false fun h2 => h ⟨by omega, by omega⟩
theorem dig_true {c : UInt8} (h : 48 ≤ c.toNat ∧ c.toNat ≤ 57) : digitB c.toNat = true := decide_eq_true ⟨by omega, by omega⟩
theorem valC_lt {c : UInt8} (h : isHex c = true) : valC c < 16 := by
  by_cases hd : digitB c.toNat = true
  · obtain ⟨_, h2, _, h4⟩ := hex_dig hd
    omega
  · have hd' : digitB c.toNat = false := by simpa using hd
    by_cases h2 : 97 ≤ c.toNat ∧ c.toNat ≤ 102
    · rw [(hex_low h2.1 h2.2).2]
      omega
    · rw [hex_not hd' h2] at h
      cases h
/-- The number of the first k bytes, all of them hexadecimal. -/
structure HexTo (s : ByteArray) (k v : Nat) : Prop where
  val : v = valL (s.data.toList.take k)
  hex : (s.data.toList.take k).all isHex = true
  lt : v < 16 ^ k
theorem HexTo.zero (s : ByteArray) : HexTo s 0 0 := ⟨rfl, rfl, by decide⟩
theorem byte_at {s : ByteArray} {k : Nat} (h : k < s.size) : s.data.toList[k]? = some s[k] := by
  have hk : k < s.data.toList.length := by rw [Array.length_toList]; exact h
  rw [List.getElem?_eq_getElem hk]
  rfl
theorem HexTo.succ {s : ByteArray} {k v : Nat} (h : HexTo s k v) (hk : k < s.size) (hx : isHex s[k] = true) : HexTo s (k + 1) (v * 16 + valC s[k]) := by
  have e := take_snoc (byte_at hk)
  have hv := valC_lt hx
  have := h.lt
  exact ⟨by rw [e, valL_snoc, ← h.val], by rw [e, List.all_append, h.hex]; simp [hx], by rw [Nat.pow_succ]; omega⟩
theorem HexTo.le7 {s : ByteArray} {k v : Nat} (h : HexTo s k v) (hk : k ≤ 7) : v < 268435456 :=
  Nat.lt_of_lt_of_le h.lt (Nat.le_trans (Nat.pow_le_pow_right (by decide) hk) (by decide))
theorem take_full (s : ByteArray) : s.data.toList.take s.size = s.data.toList := List.take_of_length_le (Nat.le_of_eq (Array.length_toList ..))
theorem readH_bad {s : ByteArray} {k : Nat} (hk : k < s.size) (hx : isHex s[k] = false) : readH s = -1 := if_neg fun g => by
  have := List.all_eq_true.1 g.2.2.1 s[k] (List.mem_of_getElem? (byte_at hk))
  rw [hx] at this
  cases this
theorem readH_long {s : ByteArray} (h : ¬ (1 ≤ s.size ∧ s.size ≤ 6)) : readH s = -1 := if_neg fun g => h ⟨g.1, g.2.1⟩
theorem readH_same {s : ByteArray} {v : Nat} (h1 : 1 ≤ s.size) (h : HexTo s s.size v) (he : hexT v = s) : readH s = v := by
  have e := h.val
  rw [take_full] at e
  have hx := h.hex
  rw [take_full] at hx
  have h6 := hexT_size (v : Int)
  rw [he] at h6
  unfold readH
  rw [← e, if_pos ⟨h1, h6, hx, he⟩]
theorem readH_other {s : ByteArray} {v : Nat} (h : HexTo s s.size v) (he : ¬ hexT v = s) : readH s = -1 := if_neg fun g => by
  have e := h.val
  rw [take_full] at e
  rw [e] at he
  exact he g.2.2.2
end Go.Proofs.Ythoiljgpggldcaa
/- Contracts of both ReadHex. -/
open Go.RowKit
namespace Go.Proofs.Ythoiljgpggldcaa
theorem toList_eqh {x y : ByteArray} (h : ¬ x = y) : (x.toList == y.toList) = false := by
  rw [beq_eq_false_iff_ne]
  intro e
  rw [Lib.toList_data, Lib.toList_data] at e
  exact h (ByteArray.ext (Array.toList_inj.1 e))
theorem ret_num {a b : Int} (h : a = b) : Ending.returned (.int .i64 a) = Ending.returned (.int .i64 b) := by rw [h]
set_option maxRecDepth 8000 in
set_option maxHeartbeats 1600000 in
theorem specReadHex (s : ByteArray) (w : World) (hs : s.size ≤ maxLen) :
    Calls Try.prog 54 #[.string s] w fun e w' => e = .returned (.int .i64 (readH s)) ∧ w = w' := by
  unfold maxLen at hs
  go_enter Try.func54, Try.ntmps54
  go_wp2_with fail
  go_loop [3, 4] (fun n i => ∃ (v k : Nat), k ≤ s.size ∧ k ≤ 7 ∧ n = .int .i64 (v : Int) ∧ i = .int .i64 (k : Int) ∧ Hid (HexTo s k v)) (fun _ i => s.size - (intOf i).toNat)
  case atStart => exact ⟨0, 0, Nat.zero_le _, Nat.zero_le _, rfl, rfl, Lib.hid (HexTo.zero s)⟩
  case round =>
    obtain ⟨v, k, hk, hk7, rfl, rfl, HV⟩ := hrel
    have hv7 : v < 268435456 := HV.out.le7 hk7
    by_cases hlt : k < s.size
    · by_cases hlt7 : k < 7
      · by_cases hd : 48 ≤ s[k].toNat ∧ s[k].toNat ≤ 57
        · have hd' := dig_true hd
          obtain ⟨hx, hvc, _, _⟩ := hex_dig hd'
          have HN : Hid (HexTo s (k + 1) (v * 16 + (s[k].toNat - 48))) := Lib.hid (by have := HV.out.succ hlt hx; rw [hvc] at this; exact this)
          clear hx hvc hd'
          obtain ⟨hd1, hd2⟩ := hd
          go_wp2_with fail
          go_round
          case rel => exact ⟨_, k + 1, by omega, by omega, by go_num, by go_num, HN⟩
          case measure => simp [intOf]; omega
        · have hd' := dig_false hd
          by_cases hlo : 97 ≤ s[k].toNat ∧ s[k].toNat ≤ 102
          · obtain ⟨hl1, hl2⟩ := hlo
            obtain ⟨hx, hvc⟩ := hex_low hl1 hl2
            have HN : Hid (HexTo s (k + 1) (v * 16 + (s[k].toNat - 87))) := Lib.hid (by have := HV.out.succ hlt hx; rw [hvc] at this; exact this)
            clear hx hvc hd'
            go_wp2_with fail
            go_round
            case rel => exact ⟨_, k + 1, by omega, by omega, by go_num, by go_num, HN⟩
            case measure => simp [intOf]; omega
          · have HB := Lib.hid (readH_bad hlt (hex_not hd' hlo))
            clear hd'
            go_wp2_with fail
            all_goals first | omega | skip
            all_goals
              go_ret
              exact ⟨ret_num HB.out.symm, rfl⟩
      · obtain rfl : k = 7 := by omega
        have hne : ¬ hexT (v : Int) = s := fun h => by
          have := hexT_size (v : Int)
          rw [h] at this
          omega
        have HR := Lib.hid (readH_long (s := s) (by omega))
        have heq2 := toList_eqh hne
        have heq : ((hexT (v : Int)).toList != s.toList) = true := by rw [bne, heq2]; rfl
        have hem : s.toList.isEmpty = false := by
          rw [Lib.toList_data, ← Bool.not_eq_true]
          intro h
          have : s.data.toList.length = 0 := by rw [List.isEmpty_iff.1 h]; rfl
          rw [Array.length_toList] at this
          have : s.size = 0 := this
          omega
        clear hne
        go_wp2_with (go_at_call 39; refine (specHexText _ _).mono ?_; rintro e w' ⟨rfl, rfl⟩)
        go_ret
        exact ⟨ret_num HR.out.symm, rfl⟩
    · obtain rfl : k = s.size := by omega
      by_cases h0 : s.size = 0
      · have hs0 : s = ⟨#[]⟩ := ByteArray.ext (Array.eq_empty_of_size_eq_zero h0)
        have HR := Lib.hid (readH_long (s := s) (by omega))
        have hem : s.toList.isEmpty = true := by rw [hs0, Lib.toList_data]; rfl
        clear hs0 h0
        go_wp2_with (go_at_call 39; refine (specHexText _ _).mono ?_; rintro e w' ⟨rfl, rfl⟩)
        go_ret
        exact ⟨ret_num HR.out.symm, rfl⟩
      · have hem : s.toList.isEmpty = false := by
          rw [Lib.toList_data, ← Bool.not_eq_true]
          intro h
          have : s.data.toList.length = 0 := by rw [List.isEmpty_iff.1 h]; rfl
          rw [Array.length_toList] at this
          exact h0 this
        by_cases he : hexT (v : Int) = s
        · have HR := Lib.hid (readH_same (by omega) HV.out he)
          have heq : (s.toList != s.toList) = false := by simp
          have HE := Lib.hid he
          clear he
          go_wp2_with (go_at_call 39; refine (specHexText _ _).mono ?_; rintro e w' ⟨rfl, rfl⟩; rw [HE.out])
          go_ret
          exact ⟨ret_num HR.out.symm, rfl⟩
        · have HR := Lib.hid (readH_other HV.out he)
          have heq2 := toList_eqh he
          have heq : ((hexT (v : Int)).toList != s.toList) = true := by rw [bne, heq2]; rfl
          clear he
          go_wp2_with (go_at_call 39; refine (specHexText _ _).mono ?_; rintro e w' ⟨rfl, rfl⟩)
          go_ret
          exact ⟨ret_num HR.out.symm, rfl⟩
end Go.Proofs.Ythoiljgpggldcaa
